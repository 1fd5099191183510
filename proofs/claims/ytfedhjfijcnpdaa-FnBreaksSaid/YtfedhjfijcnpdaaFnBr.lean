/- The walk of the law FnBreaks. -/
import Derived.Test.YtfedhjfijcnpdaaBreakL
import Derived.Test.YtfedhjfijcnpdaaBreakI
import Derived.Test.YtfedhjfijcnpdaaWorst
import Derived.Test.YtfedhjfijcnpdaaFew
import Derived.Test.YtfedhjfijcnpdaaDrawP
import Derived.Test.YtfedhjfijcnpdaaHas
namespace Go.Proofs.Ytfedhjfijcnpdaa
open Go.ChangeShapes Go.WideShapes Go.ChangeAt Go.RowKit Go.Joins Tr
set_option linter.unusedSimpArgs false
set_option linter.unusedVariables false
set_option maxRecDepth 20000

theorem RdI.rlc {w : World} {v : Value} {N : Nat} {f : Nat → Int} (h : RdI w v (rl N f)) : ∃ a c b o, v = .slice a N c ∧ (0 < N → a = some ⟨b, o, none⟩) ∧ ∀ k, k < N → w.cell? ⟨b, o + k, none⟩ = some (.int .i64 (f k)) := by
  obtain ⟨a, c, b, o, rfl, _, _, ha, hc⟩ := h.open
  rw [rl_len] at ha hc ⊢
  refine ⟨a, c, b, o, rfl, ha, fun k hk => ?_⟩
  have := hc k hk
  rw [rl_getD f hk] at this
  exact this
theorem RdI.full {w : World} {v : Value} {zs : List Int} (h : RdI w v zs) (hl : 0 < zs.length) : ∃ c b o, v = .slice (some ⟨b, o, none⟩) zs.length c ∧ ∀ k x, zs[k]? = some x → w.cell? ⟨b, o + k, none⟩ = some (.int .i64 x) := by
  obtain ⟨a, c, b, o, rfl, _, _, ha, hc⟩ := h.open
  obtain rfl := ha hl
  refine ⟨c, b, o, rfl, fun k x hx => ?_⟩
  have hk := (List.getElem?_eq_some_iff.1 hx).1
  have := hc k hk
  rw [List.getD_eq_getElem?_getD, hx] at this
  exact this
theorem wout_at {N : Nat} {ps : List Int} (hl : ps.length = N) {j : Nat} (hj : j < N) : withoutString ps j = ps.set j (-1) := by
  unfold withoutString
  rw [if_pos (inB_true.2 (by omega)), Int.toNat_natCast]
theorem keep_in {ps f : List Int} {k x : Nat} (h : (x : Int) ∈ f.take k) : keepF ps f k x = pf ps x := if_pos h
/-- What lies beneath the law's own memory. -/
structure KK (B0 W : World) (gx N : Nat) (zs : List LimbV) (ps F : List Int) (al : Option Addr) (cl cp : Nat) (f : Nat → Int) (bp op bf of bh oh : Nat) : Prop where
  hX : BX W gx N (.slice al zs.length cl)
  hR : RdLimb W (.slice al zs.length cl) zs
  hP : RdI W (.slice (some ⟨bp, op, none⟩) N cp) ps
  hB : Below B0.heap.size B0 W
  cP : ∀ k, k < N → W.cell? ⟨bp, op + k, none⟩ = some (.int .i64 (pf ps k))
  cF : ∀ k x, F[k]? = some x → W.cell? ⟨bf, of + k, none⟩ = some (.int .i64 x)
  cH : ∀ k, k < N → W.cell? ⟨bh, oh + k, none⟩ = some (.int .i64 (f k))

set_option maxRecDepth 40000 in
set_option maxHeartbeats 8000000 in
theorem walkFnBreaks (n : Nat) (v : Value) (w : World) (hr : RdB w w.heap.size v n) : Calls Try.prog 3 #[v] w fun e w' => e = .returned (.bool true) ∧ Below w.heap.size w w' := by
  by_cases hbig : n ≤ 1048576
  · have hbd : decide (1048576 < n) = false := decide_eq_false (by omega)
    have hB := Below.refl w.heap.size w
    go_enter Try.func3, Try.ntmps3
    go_wp2_with (fail)
    refine (big_any n _ _ _ hr).mono ?_
    rintro e w0 ⟨rfl, rfl⟩
    go_wp2_with (fail)
    refine (drawHung_any n _ _ (hr.up hB.size)).mono ?_
    rintro e w7 ⟨N, zs, ps, ul, xp, rfl, hok, ol, op, hb⟩
    replace hB := bvia hB hb
    obtain ⟨al, cl, rfl⟩ := ol.rd.shape
    have hpf := pulls_facts hok
    have hN := hpf.1
    have hpl := hpf.2.2.1
    obtain ⟨cp, bp, oq, rfl, hcp⟩ := op.rd.full (by omega)
    have hba := below_alloc1 w7 (.cells #[.int .i64 N, .slice al zs.length cl] 26)
    have hX := BX.new w7 N (.slice al zs.length cl)
    have HK := Lib.hid (And.intro hX (And.intro (ol.rd.below hba) (And.intro (op.rd.below hba) (And.intro (fun k x h => cell_on hba (hcp k x h)) (bvia hB hba)))))
    have HH := Lib.hid (fun v w' h h' => specHangPose_any N zs ps hok (.slice al zs.length cl) v w' h h')
    rw [poseL_eq] at HH
    have HFO := Lib.hid (few_ok hok)
    have HWO := Lib.hid (worst_ok hok)
    have HOK := Lib.hid hok
    have HPL := Lib.hid hpl
    have HSG := Lib.hid (And.intro (show 1 ≤ strN ps from hpf.2.2.2.2.1) (show strN ps ≤ N by have := strN_le ps; omega))
    have HCP := Lib.hid (fun k (h : k < N) => pf_at (ps := ps) (i := k) (by omega))
    have HPB := Lib.hid (fun k => pf_bd hpf.2.2.2.1 k)
    obtain ⟨f, hf⟩ : ∃ f, hp (fill N (edges zs)) (pf ps) N = f := ⟨_, rfl⟩
    rw [hf] at HH
    have HFE := Lib.hid hf
    have HFW := Lib.hid (fun u v w' h h' => implFewestStrings_any N zs ps u v w' h h')
    have HNW := Lib.hid (fun now j u v w' h h' => implIsNeeded_any N zs now j u v w' h h')
    have HSW := Lib.hid (fun os u v v' w' h h' h'' => implHangsSame_any N zs ps os u v v' w' h h' h'')
    have HWW := Lib.hid (fun u v w' h h' => implWorstString_any N zs ps u v w' h h')
    rw [hpl] at HK ⊢
    clear hba hX ol op hr hB hok hpf hf hcp
    go_wp2_with (fail)
    generalize w7.alloc (.cells #[.int .i64 N, .slice al zs.length cl] 26) = w8 at HK ⊢
    generalize w7.heap.size = gx at HK ⊢
    obtain ⟨hX, hR, hP, hcp, hB⟩ := HK.out
    clear HK
    obtain ⟨m0, m1⟩ := id hX
    go_wp2_with (fail)
    refine (HH.out _ _ hR hP).mono ?_
    rintro e w9 ⟨uh, rfl, oh, hb⟩
    replace hX := hX.below hb
    replace hR := hR.below hb
    replace hP := hP.below hb
    replace hcp := fun k x h => cell_on hb (hcp k x h)
    replace hB := bvia hB hb
    clear hb m0 m1
    have hh := oh.rd
    clear oh
    obtain ⟨ah, ch, bh, oi, rfl, hah, hch⟩ := hh.rlc
    obtain rfl := hah (by omega)
    obtain ⟨m0, m1⟩ := id hX
    go_wp2_with (fail)
    refine (HFW.out _ _ _ hR hP).mono ?_
    rintro e w5 ⟨uf, rfl, og, hb⟩
    generalize fewL N zs ps = F at HFO og
    generalize nowK N zs ps N = now at HFO
    obtain ⟨cf, bf, of, rfl, hcf⟩ := og.rd.full HFO.out.pos
    obtain ⟨M, hM⟩ : ∃ M, F.length = M := ⟨_, rfl⟩
    have HM := Lib.hid hM
    have hM0 : 1 ≤ M := by have := HFO.out.pos; omega
    have hM1 : M ≤ strN ps := by have := HFO.out.le; omega
    obtain ⟨S, hS⟩ : ∃ S, strN ps = S := ⟨_, rfl⟩
    have HS := Lib.hid hS
    rw [hS] at hM1
    have hS1 : 1 ≤ S ∧ S ≤ N := by have := HSG.out; omega
    have HFM := Lib.hid (show rl N (keepF ps F M) = now by rw [← hM]; exact HFO.out.fin)
    rw [hM]
    have HKK : Hid (KK w w5 gx N zs ps F al cl cp f bp oq bf of bh oi) :=
      ⟨hX.below hb, hR.below hb, hP.below hb, bvia hB hb, fun k hk => cell_on hb (hcp k _ (HCP.out k hk)), hcf, fun k hk => cell_on hb (hch k hk)⟩
    have hD := Below.refl w5.heap.size w5
    clear hb m0 m1 hX hR hP hh hcp hB og hcf hM hS hpl HFW HH hah hch
    go_wp2_with (fail)
    go_loopw [7, 8] (fun c i wr => ∃ k : Nat, k ≤ N ∧ i = .int .i64 k ∧ c = .int .i64 (strN (ps.take k) : Nat) ∧ Below w5.heap.size w5 wr) (fun _ i _ => N - (intOf i).toNat)
    case atStart => exact ⟨0, Nat.zero_le _, rfl, rfl, hD⟩
    case round =>
     focus
      clear hD
      obtain ⟨k, hk, rfl, rfl, hD⟩ := hrel
      obtain ⟨wo, hwo⟩ : ∃ wo : World, wo = wr := ⟨_, rfl⟩
      subst hwo
      obtain ⟨m0, m1⟩ := HKK.out.hX.below hD
      by_cases hkN : k < N
      · have qk : (k : Int) < (N : Int) := by omega
        have c0 := cell_on hD (HKK.out.cP k hkN)
        obtain ⟨c, hc⟩ : ∃ c, strN (ps.take k) = c := ⟨_, rfl⟩
        have hsu := strN_succ (HCP.out k hkN)
        have hpb := HPB.out k
        rw [hc] at hsu ⊢
        have hcl : c ≤ 12 := by rw [← hc]; have := strN_le (ps.take k); rw [List.length_take] at this; omega
        have HSU := Lib.hid hsu
        generalize pf ps k = x at c0 HSU hpb hsu
        have hwc : IntKind.i64.wrap ((c : Int) + 1) = (c : Int) + 1 := IntWalk.i64_in _ (by omega)
        have hwc0 : IntKind.i64.wrap ((c : Int) + 0) = (c : Int) + 0 := IntWalk.i64_in _ (by omega)
        clear hc hsu
        by_cases hx : 0 ≤ x
        · go_wp2_with (fail)
          refine (btoi_any _ _).mono ?_
          rintro e w2 ⟨rfl, rfl⟩
          go_wp2_with (fail)
          exact ⟨⟨k + 1, by omega, by go_num, by rw [HSU.out, if_pos hx]; go_num, hD⟩, by simp [intOf]; omega⟩
        · have hx2 : decide (0 ≤ x) = false := decide_eq_false hx
          go_wp2_with (fail)
          refine (btoi_any _ _).mono ?_
          rintro e w2 ⟨rfl, rfl⟩
          go_wp2_with (fail)
          exact ⟨⟨k + 1, by omega, by go_num, by rw [HSU.out, if_neg (by omega)]; go_num, hD⟩, by simp [intOf]; omega⟩
      · obtain rfl : k = N := by omega
        rw [List.take_of_length_le (show ps.length ≤ k by have := HPL.out; omega), HS.out]
        go_wp2_with (fail)
        have hs0 : (wo.alloc (.cells #[] 3)).heap.size = wo.heap.size + 1 := by simp
        have ho : OwI (wo.alloc (.cells #[] 3)) wo.heap.size (.slice (some ⟨wo.heap.size, 0, none⟩) 0 0) (rl 0 fun _ => -1) := OwI.empty wo wo.heap.size (Nat.le_refl _)
        have HQ := Lib.hid (And.intro ho (And.intro (bvia hD (below_alloc1 wo (.cells #[] 3))) (And.intro hD.size (show wo.heap.size ≤ (wo.alloc (.cells #[] 3)).heap.size by omega))))
        clear ho hs0 hD m0 m1
        generalize wo.alloc (.cells #[] 3) = wp at HQ ⊢
        generalize wo.heap.size = B2 at HQ ⊢
        obtain ⟨ho, hD, hB2, hZ⟩ := HQ.out
        clear HQ
        go_loopw [9, 10] (fun o i wr => ∃ q : Nat, q ≤ k ∧ i = .int .i64 q ∧ OwI wr B2 o (rl q fun _ => -1) ∧ Below w5.heap.size w5 wr ∧ B2 ≤ wr.heap.size) (fun _ i _ => k - (intOf i).toNat)
        case atStart => exact ⟨0, Nat.zero_le _, rfl, ho, hD, hZ⟩
        case round =>
         focus
          clear ho hD hZ
          obtain ⟨q, hq, rfl, ho, hD, hZ⟩ := hrel
          obtain ⟨wo2, hwo2⟩ : ∃ wo2 : World, wo2 = wr := ⟨_, rfl⟩
          subst hwo2
          obtain ⟨m0, m1⟩ := HKK.out.hX.below hD
          by_cases hqN : q < k
          · have qk : (q : Int) < (k : Int) := by omega
            have hql : (rl q fun _ => (-1 : Int)).length ≤ 20 := by rw [rl_len]; omega
            go_wp2_with (at_builtin; refine wpList_pushI rfl (.tmp 53) (.tmp 54) rfl _ _ B2 _ _ rfl ho rfl (by omega) hZ ?_; intro v2 w6 o2 hgr hfr; have hD2 := ho.grown_below hD hB2 hgr; have hZ2 := Nat.le_trans hZ hgr.size; clear hgr hfr)
            exact ⟨⟨q + 1, by omega, by go_num, by rw [rl_succ]; exact o2, hD2, hZ2⟩, by simp [intOf]; omega⟩
          · obtain rfl : q = k := by omega
            obtain ⟨g, c, rfl, hg1, hg2, hc1, hc2⟩ := ho.fullR hN.1
            rw [show (rl q fun _ => (-1 : Int)) = rl q (keepF ps F 0) by rw [keepF_zero]] at ho
            go_wp2_with (fail)
            clear m0 m1
            go_loopw [11] (fun i wr => ∃ k : Nat, k ≤ M ∧ i = .int .i64 k ∧ OwI wr B2 (.slice (some ⟨g, 0, none⟩) q c) (rl q (keepF ps F k)) ∧ Below w5.heap.size w5 wr) (fun i _ => M - (intOf i).toNat)
            case atStart => exact ⟨0, Nat.zero_le _, rfl, ho, hD⟩
            case round =>
             focus
              clear ho hD
              obtain ⟨k, hk, rfl, ho, hD⟩ := hrel
              obtain ⟨wo3, hwo3⟩ : ∃ wo3 : World, wo3 = wr := ⟨_, rfl⟩
              subst hwo3
              by_cases hkM : k < M
              · have qk : (k : Int) < (M : Int) := by omega
                obtain ⟨xi, hxi⟩ : ∃ xi, F[k]? = some xi := ⟨_, List.getElem?_eq_getElem (by rw [HM.out]; exact hkM)⟩
                obtain ⟨x, hxN, rfl, hx0, _⟩ := HFO.out.at_ xi (List.mem_of_getElem? hxi)
                have HNX := Lib.hid (keepF_next (ps := ps) hxi q)
                have q0 := cell_on hD.drew HKK.out.hX.1
                have q1 := cell_on hD.drew (HKK.out.cF k _ hxi)
                have q2 := cell_on hD.drew (HKK.out.cP x hxN)
                have qx : (x : Int) < (q : Int) := by omega
                have b0 : decide ((x : Int) < 0) = false := decide_eq_false (by omega)
                have b1 : decide ((q : Int) ≤ (x : Int)) = false := decide_eq_false (by omega)
                have b3 : decide (q ≤ x) = false := decide_eq_false (by omega)
                generalize pf ps x = y at q2 HNX hx0
                have b2 : decide (y < 0) = false := decide_eq_false (by omega)
                go_wp2_with (fail)
                with_reducible refine region_beg (n := 24) (S := (fun w => w.cell? ⟨gx, 0, none⟩ = some (.int .i64 (q : Int)) ∧ w.cell? ⟨bf, of + k, none⟩ = some (.int .i64 (x : Int)) ∧ w.cell? ⟨bp, oq + x, none⟩ = some (.int .i64 y))) ?b1_u1 ?b2_u1 ?b3_u1 (fun hHeld => ?b4_u1)
                case b1_u1 => kernel_rfl
                case b2_u1 => kernel_rfl
                case b3_u1 => exact ⟨q0, q1, q2⟩
                with_reducible refine takeI2 (i := 0) (v := ?sv_u2) (oi := ?s0_u2) (by simp only [List.getElem?_toArray, List.getElem?_cons_succ, List.getElem?_cons_zero]; exact rfl) ?s1_u2 ?s2_u2 ?s3_u2 ?s4_u2 ?s5_u2 ?s6_u2 ?s7_u2
                case s1_u2 | s2_u2 | s3_u2 => kernel_rfl
                case s4_u2 => exact fun _ _ _ h => h
                case s5_u2 => exact Or.inl ⟨rfl, by intro w hSw; (try dsimp only at hSw); go_simp; try with_reducible rfl⟩
                case s6_u2 => assumption
                try simp only [Act.put, List.setIfInBounds_toArray, List.set_cons_zero, List.set_cons_succ]
                with_reducible refine takeI2 (i := 1) (v := ?sv_u3) (oi := ?s0_u3) (by simp only [List.getElem?_toArray, List.getElem?_cons_succ, List.getElem?_cons_zero]; exact rfl) ?s1_u3 ?s2_u3 ?s3_u3 ?s4_u3 ?s5_u3 ?s6_u3 ?s7_u3
                case s1_u3 | s2_u3 | s3_u3 => kernel_rfl
                case s4_u3 => exact fun _ _ _ h => h
                case s5_u3 => exact Or.inl ⟨rfl, by intro w hSw; (try dsimp only at hSw); go_simp; try with_reducible rfl⟩
                case s6_u3 => assumption
                try simp only [Act.put, List.setIfInBounds_toArray, List.set_cons_zero, List.set_cons_succ]
                with_reducible refine takeI2 (i := 2) (v := ?sv_u4) (oi := ?s0_u4) (by simp only [List.getElem?_toArray, List.getElem?_cons_succ, List.getElem?_cons_zero]; exact rfl) ?s1_u4 ?s2_u4 ?s3_u4 ?s4_u4 ?s5_u4 ?s6_u4 ?s7_u4
                case s1_u4 | s2_u4 | s3_u4 => kernel_rfl
                case s4_u4 => exact fun _ _ _ h => h
                case s5_u4 => exact Or.inl ⟨rfl, by intro w hSw; (try dsimp only at hSw); go_simp; try with_reducible rfl⟩
                case s6_u4 => assumption
                try simp only [Act.put, List.setIfInBounds_toArray, List.set_cons_zero, List.set_cons_succ]
                with_reducible refine takeI2 (i := 3) (v := ?sv_u5) (oi := ?s0_u5) (by simp only [List.getElem?_toArray, List.getElem?_cons_succ, List.getElem?_cons_zero]; exact rfl) ?s1_u5 ?s2_u5 ?s3_u5 ?s4_u5 ?s5_u5 ?s6_u5 ?s7_u5
                case s1_u5 | s2_u5 | s3_u5 => kernel_rfl
                case s4_u5 => exact fun _ _ _ h => h
                case s5_u5 => exact Or.inl ⟨rfl, by intro w hSw; (try dsimp only at hSw); go_simp; try with_reducible rfl⟩
                case s6_u5 => assumption
                try simp only [Act.put, List.setIfInBounds_toArray, List.set_cons_zero, List.set_cons_succ]
                with_reducible refine takeI2 (i := 4) (v := ?sv_u6) (oi := ?s0_u6) (by simp only [List.getElem?_toArray, List.getElem?_cons_succ, List.getElem?_cons_zero]; exact rfl) ?s1_u6 ?s2_u6 ?s3_u6 ?s4_u6 ?s5_u6 ?s6_u6 ?s7_u6
                case s1_u6 | s2_u6 | s3_u6 => kernel_rfl
                case s4_u6 => exact fun _ _ _ h => h
                case s5_u6 => exact Or.inl ⟨rfl, by intro w hSw; (try dsimp only at hSw); go_simp; try with_reducible rfl⟩
                case s6_u6 => assumption
                try simp only [Act.put, List.setIfInBounds_toArray, List.set_cons_zero, List.set_cons_succ]
                with_reducible refine takeI2 (i := 5) (v := ?sv_u7) (oi := ?s0_u7) (by simp only [List.getElem?_toArray, List.getElem?_cons_succ, List.getElem?_cons_zero]; exact rfl) ?s1_u7 ?s2_u7 ?s3_u7 ?s4_u7 ?s5_u7 ?s6_u7 ?s7_u7
                case s1_u7 | s2_u7 | s3_u7 => kernel_rfl
                case s4_u7 => exact fun _ _ _ h => h
                case s5_u7 => exact Or.inl ⟨rfl, by intro w hSw; (try dsimp only at hSw); go_simp; try with_reducible rfl⟩
                case s6_u7 => assumption
                try simp only [Act.put, List.setIfInBounds_toArray, List.set_cons_zero, List.set_cons_succ]
                with_reducible refine takeI2 (i := 6) (v := ?sv_u8) (oi := ?s0_u8) (by simp only [List.getElem?_toArray, List.getElem?_cons_succ, List.getElem?_cons_zero]; exact rfl) ?s1_u8 ?s2_u8 ?s3_u8 ?s4_u8 ?s5_u8 ?s6_u8 ?s7_u8
                case s1_u8 | s2_u8 | s3_u8 => kernel_rfl
                case s4_u8 => exact fun _ _ _ h => h
                case s5_u8 => exact Or.inl ⟨rfl, by intro w hSw; (try dsimp only at hSw); go_simp; try with_reducible rfl⟩
                case s6_u8 => assumption
                try simp only [Act.put, List.setIfInBounds_toArray, List.set_cons_zero, List.set_cons_succ]
                with_reducible refine takeI2 (i := 7) (v := ?sv_u9) (oi := ?s0_u9) (by simp only [List.getElem?_toArray, List.getElem?_cons_succ, List.getElem?_cons_zero]; exact rfl) ?s1_u9 ?s2_u9 ?s3_u9 ?s4_u9 ?s5_u9 ?s6_u9 ?s7_u9
                case s1_u9 | s2_u9 | s3_u9 => kernel_rfl
                case s4_u9 => exact fun _ _ _ h => h
                case s5_u9 => exact Or.inl ⟨rfl, by intro w hSw; (try dsimp only at hSw); go_simp; try with_reducible rfl⟩
                case s6_u9 => assumption
                try simp only [Act.put, List.setIfInBounds_toArray, List.set_cons_zero, List.set_cons_succ]
                with_reducible refine takeI2 (i := 8) (v := ?sv_u10) (oi := ?s0_u10) (by simp only [List.getElem?_toArray, List.getElem?_cons_succ, List.getElem?_cons_zero]; exact rfl) ?s1_u10 ?s2_u10 ?s3_u10 ?s4_u10 ?s5_u10 ?s6_u10 ?s7_u10
                case s1_u10 | s2_u10 | s3_u10 => kernel_rfl
                case s4_u10 => exact fun _ _ _ h => h
                case s5_u10 => exact Or.inl ⟨rfl, by intro w hSw; (try dsimp only at hSw); go_simp; try with_reducible rfl⟩
                case s6_u10 => assumption
                try simp only [Act.put, List.setIfInBounds_toArray, List.set_cons_zero, List.set_cons_succ]
                with_reducible refine takeI2 (i := 9) (v := ?sv_u11) (oi := ?s0_u11) (by simp only [List.getElem?_toArray, List.getElem?_cons_succ, List.getElem?_cons_zero]; exact rfl) ?s1_u11 ?s2_u11 ?s3_u11 ?s4_u11 ?s5_u11 ?s6_u11 ?s7_u11
                case s1_u11 | s2_u11 | s3_u11 => kernel_rfl
                case s4_u11 => exact fun _ _ _ h => h
                case s5_u11 => exact Or.inl ⟨rfl, by intro w hSw; (try dsimp only at hSw); go_simp; try with_reducible rfl⟩
                case s6_u11 => assumption
                try simp only [Act.put, List.setIfInBounds_toArray, List.set_cons_zero, List.set_cons_succ]
                with_reducible refine takeI2 (i := 10) (v := ?sv_u12) (oi := ?s0_u12) (by simp only [List.getElem?_toArray, List.getElem?_cons_succ, List.getElem?_cons_zero]; exact rfl) ?s1_u12 ?s2_u12 ?s3_u12 ?s4_u12 ?s5_u12 ?s6_u12 ?s7_u12
                case s1_u12 | s2_u12 | s3_u12 => kernel_rfl
                case s4_u12 => exact fun _ _ _ h => h
                case s5_u12 => exact Or.inl ⟨rfl, by intro w hSw; (try dsimp only at hSw); go_simp; try with_reducible rfl⟩
                case s6_u12 => assumption
                try simp only [Act.put, List.setIfInBounds_toArray, List.set_cons_zero, List.set_cons_succ]
                with_reducible refine takeI2 (i := 11) (v := ?sv_u13) (oi := ?s0_u13) (by simp only [List.getElem?_toArray, List.getElem?_cons_succ, List.getElem?_cons_zero]; exact rfl) ?s1_u13 ?s2_u13 ?s3_u13 ?s4_u13 ?s5_u13 ?s6_u13 ?s7_u13
                case s1_u13 | s2_u13 | s3_u13 => kernel_rfl
                case s4_u13 => exact fun _ _ _ h => h
                case s5_u13 => exact Or.inl ⟨rfl, by intro w hSw; (try dsimp only at hSw); go_simp; try with_reducible rfl⟩
                case s6_u13 => assumption
                try simp only [Act.put, List.setIfInBounds_toArray, List.set_cons_zero, List.set_cons_succ]
                with_reducible refine takeI2 (i := 12) (v := ?sv_u14) (oi := ?s0_u14) (by simp only [List.getElem?_toArray, List.getElem?_cons_succ, List.getElem?_cons_zero]; exact rfl) ?s1_u14 ?s2_u14 ?s3_u14 ?s4_u14 ?s5_u14 ?s6_u14 ?s7_u14
                case s1_u14 | s2_u14 | s3_u14 => kernel_rfl
                case s4_u14 => exact fun _ _ _ h => h
                case s5_u14 => exact Or.inl ⟨rfl, by intro w hSw; (try dsimp only at hSw); go_simp; try with_reducible rfl⟩
                case s6_u14 => assumption
                try simp only [Act.put, List.setIfInBounds_toArray, List.set_cons_zero, List.set_cons_succ]
                with_reducible refine takeI2 (i := 13) (v := ?sv_u15) (oi := ?s0_u15) (by simp only [List.getElem?_toArray, List.getElem?_cons_succ, List.getElem?_cons_zero]; exact rfl) ?s1_u15 ?s2_u15 ?s3_u15 ?s4_u15 ?s5_u15 ?s6_u15 ?s7_u15
                case s1_u15 | s2_u15 | s3_u15 => kernel_rfl
                case s4_u15 => exact fun _ _ _ h => h
                case s5_u15 => exact Or.inl ⟨rfl, by intro w hSw; (try dsimp only at hSw); go_simp; try with_reducible rfl⟩
                case s6_u15 => assumption
                try simp only [Act.put, List.setIfInBounds_toArray, List.set_cons_zero, List.set_cons_succ]
                with_reducible refine takeI2 (i := 14) (v := ?sv_u16) (oi := ?s0_u16) (by simp only [List.getElem?_toArray, List.getElem?_cons_succ, List.getElem?_cons_zero]; exact rfl) ?s1_u16 ?s2_u16 ?s3_u16 ?s4_u16 ?s5_u16 ?s6_u16 ?s7_u16
                case s1_u16 | s2_u16 | s3_u16 => kernel_rfl
                case s4_u16 => exact fun _ _ _ h => h
                case s5_u16 => exact Or.inl ⟨rfl, by intro w hSw; (try dsimp only at hSw); go_simp; try with_reducible rfl⟩
                case s6_u16 => assumption
                try simp only [Act.put, List.setIfInBounds_toArray, List.set_cons_zero, List.set_cons_succ]
                with_reducible refine takeI2 (i := 15) (v := ?sv_u17) (oi := ?s0_u17) (by simp only [List.getElem?_toArray, List.getElem?_cons_succ, List.getElem?_cons_zero]; exact rfl) ?s1_u17 ?s2_u17 ?s3_u17 ?s4_u17 ?s5_u17 ?s6_u17 ?s7_u17
                case s1_u17 | s2_u17 | s3_u17 => kernel_rfl
                case s4_u17 => exact fun _ _ _ h => h
                case s5_u17 => exact Or.inl ⟨rfl, by intro w hSw; (try dsimp only at hSw); go_simp; try with_reducible rfl⟩
                case s6_u17 => assumption
                try simp only [Act.put, List.setIfInBounds_toArray, List.set_cons_zero, List.set_cons_succ]
                with_reducible refine takeI2 (i := 16) (v := ?sv_u18) (oi := ?s0_u18) (by simp only [List.getElem?_toArray, List.getElem?_cons_succ, List.getElem?_cons_zero]; exact rfl) ?s1_u18 ?s2_u18 ?s3_u18 ?s4_u18 ?s5_u18 ?s6_u18 ?s7_u18
                case s1_u18 | s2_u18 | s3_u18 => kernel_rfl
                case s4_u18 => exact fun _ _ _ h => h
                case s5_u18 => exact Or.inl ⟨rfl, by intro w hSw; (try dsimp only at hSw); go_simp; try with_reducible rfl⟩
                case s6_u18 => assumption
                try simp only [Act.put, List.setIfInBounds_toArray, List.set_cons_zero, List.set_cons_succ]
                with_reducible refine takeI2 (i := 17) (v := ?sv_u19) (oi := ?s0_u19) (by simp only [List.getElem?_toArray, List.getElem?_cons_succ, List.getElem?_cons_zero]; exact rfl) ?s1_u19 ?s2_u19 ?s3_u19 ?s4_u19 ?s5_u19 ?s6_u19 ?s7_u19
                case s1_u19 | s2_u19 | s3_u19 => kernel_rfl
                case s4_u19 => exact fun _ _ _ h => h
                case s5_u19 => exact Or.inl ⟨rfl, by intro w hSw; (try dsimp only at hSw); go_simp; try with_reducible rfl⟩
                case s6_u19 => assumption
                try simp only [Act.put, List.setIfInBounds_toArray, List.set_cons_zero, List.set_cons_succ]
                with_reducible refine takeI2 (i := 18) (v := ?sv_u20) (oi := ?s0_u20) (by simp only [List.getElem?_toArray, List.getElem?_cons_succ, List.getElem?_cons_zero]; exact rfl) ?s1_u20 ?s2_u20 ?s3_u20 ?s4_u20 ?s5_u20 ?s6_u20 ?s7_u20
                case s1_u20 | s2_u20 | s3_u20 => kernel_rfl
                case s4_u20 => exact fun _ _ _ h => h
                case s5_u20 => exact Or.inl ⟨rfl, by intro w hSw; (try dsimp only at hSw); go_simp; try with_reducible rfl⟩
                case s6_u20 => assumption
                try simp only [Act.put, List.setIfInBounds_toArray, List.set_cons_zero, List.set_cons_succ]
                with_reducible refine takeI2 (i := 19) (v := ?sv_u21) (oi := ?s0_u21) (by simp only [List.getElem?_toArray, List.getElem?_cons_succ, List.getElem?_cons_zero]; exact rfl) ?s1_u21 ?s2_u21 ?s3_u21 ?s4_u21 ?s5_u21 ?s6_u21 ?s7_u21
                case s1_u21 | s2_u21 | s3_u21 => kernel_rfl
                case s4_u21 => exact fun _ _ _ h => h
                case s5_u21 => exact Or.inl ⟨rfl, by intro w hSw; (try dsimp only at hSw); go_simp; try with_reducible rfl⟩
                case s6_u21 => assumption
                try simp only [Act.put, List.setIfInBounds_toArray, List.set_cons_zero, List.set_cons_succ]
                with_reducible refine takeI2 (i := 20) (v := ?sv_u22) (oi := ?s0_u22) (by simp only [List.getElem?_toArray, List.getElem?_cons_succ, List.getElem?_cons_zero]; exact rfl) ?s1_u22 ?s2_u22 ?s3_u22 ?s4_u22 ?s5_u22 ?s6_u22 ?s7_u22
                case s1_u22 | s2_u22 | s3_u22 => kernel_rfl
                case s4_u22 => exact fun _ _ _ h => h
                case s5_u22 => exact Or.inl ⟨rfl, by intro w hSw; (try dsimp only at hSw); go_simp; try with_reducible rfl⟩
                case s6_u22 => assumption
                try simp only [Act.put, List.setIfInBounds_toArray, List.set_cons_zero, List.set_cons_succ]
                with_reducible refine takeI2 (i := 21) (v := ?sv_u23) (oi := ?s0_u23) (by simp only [List.getElem?_toArray, List.getElem?_cons_succ, List.getElem?_cons_zero]; exact rfl) ?s1_u23 ?s2_u23 ?s3_u23 ?s4_u23 ?s5_u23 ?s6_u23 ?s7_u23
                case s1_u23 | s2_u23 | s3_u23 => kernel_rfl
                case s4_u23 => exact fun _ _ _ h => h
                case s5_u23 => exact Or.inl ⟨rfl, by intro w hSw; (try dsimp only at hSw); go_simp; try with_reducible rfl⟩
                case s6_u23 => assumption
                try simp only [Act.put, List.setIfInBounds_toArray, List.set_cons_zero, List.set_cons_succ]
                with_reducible refine takeI2 (i := 22) (v := ?sv_u24) (oi := ?s0_u24) (by simp only [List.getElem?_toArray, List.getElem?_cons_succ, List.getElem?_cons_zero]; exact rfl) ?s1_u24 ?s2_u24 ?s3_u24 ?s4_u24 ?s5_u24 ?s6_u24 ?s7_u24
                case s1_u24 | s2_u24 | s3_u24 => kernel_rfl
                case s4_u24 => exact fun _ _ _ h => h
                case s5_u24 => exact Or.inl ⟨rfl, by intro w hSw; (try dsimp only at hSw); go_simp; try with_reducible rfl⟩
                case s6_u24 => assumption
                try simp only [Act.put, List.setIfInBounds_toArray, List.set_cons_zero, List.set_cons_succ]
                with_reducible refine takeI2 (i := 23) (v := ?sv_u25) (oi := ?s0_u25) (by simp only [List.getElem?_toArray, List.getElem?_cons_succ, List.getElem?_cons_zero]; exact rfl) ?s1_u25 ?s2_u25 ?s3_u25 ?s4_u25 ?s5_u25 ?s6_u25 ?s7_u25
                case s1_u25 | s2_u25 | s3_u25 => kernel_rfl
                case s4_u25 => exact fun _ _ _ h => h
                case s5_u25 => exact Or.inl ⟨rfl, by intro w hSw; (try dsimp only at hSw); go_simp; try with_reducible rfl⟩
                case s6_u25 => assumption
                try simp only [Act.put, List.setIfInBounds_toArray, List.set_cons_zero, List.set_cons_succ]
                with_reducible refine wpAnyH_done ?s1_u26 ?s2_u26 _
                case s1_u26 => kernel_rfl
                go_wp2_with (fail)
                replace hD := hD.drew
                replace ho := ho.drew
                replace q0 := cell_on (dr1 _).below q0
                replace q1 := cell_on (dr1 _).below q1
                replace q2 := cell_on (dr1 _).below q2
                obtain ⟨e0, f0⟩ := ho.rlc hxN
                clear b0 b1 b2 b3
                with_reducible refine region_beg (n := 14) (S := (fun _ => True)) ?b1_u27 ?b2_u27 ?b3_u27 (fun hHeld => ?b4_u27)
                case b1_u27 => kernel_rfl
                case b2_u27 => kernel_rfl
                case b3_u27 => exact trivial
                with_reducible refine takeI2 (i := 0) (v := ?sv_u28) (oi := ?s0_u28) (by simp only [List.getElem?_toArray, List.getElem?_cons_succ, List.getElem?_cons_zero]; exact rfl) ?s1_u28 ?s2_u28 ?s3_u28 ?s4_u28 ?s5_u28 ?s6_u28 ?s7_u28
                case s1_u28 | s2_u28 | s3_u28 => kernel_rfl
                case s4_u28 => exact fun _ _ _ h => h
                case s5_u28 => exact Or.inl ⟨rfl, by intro w hSw; (try dsimp only at hSw); go_simp; try with_reducible rfl⟩
                case s6_u28 => assumption
                try simp only [Act.put, List.setIfInBounds_toArray, List.set_cons_zero, List.set_cons_succ]
                with_reducible refine takeI2 (i := 1) (v := ?sv_u29) (oi := ?s0_u29) (by simp only [List.getElem?_toArray, List.getElem?_cons_succ, List.getElem?_cons_zero]; exact rfl) ?s1_u29 ?s2_u29 ?s3_u29 ?s4_u29 ?s5_u29 ?s6_u29 ?s7_u29
                case s1_u29 | s2_u29 | s3_u29 => kernel_rfl
                case s4_u29 => exact fun _ _ _ h => h
                case s5_u29 => exact Or.inl ⟨rfl, by intro w hSw; (try dsimp only at hSw); go_simp; try with_reducible rfl⟩
                case s6_u29 => assumption
                try simp only [Act.put, List.setIfInBounds_toArray, List.set_cons_zero, List.set_cons_succ]
                with_reducible refine takeI2 (i := 2) (v := ?sv_u30) (oi := ?s0_u30) (by simp only [List.getElem?_toArray, List.getElem?_cons_succ, List.getElem?_cons_zero]; exact rfl) ?s1_u30 ?s2_u30 ?s3_u30 ?s4_u30 ?s5_u30 ?s6_u30 ?s7_u30
                case s1_u30 | s2_u30 | s3_u30 => kernel_rfl
                case s4_u30 => exact fun _ _ _ h => h
                case s5_u30 => exact Or.inl ⟨rfl, by intro w hSw; (try dsimp only at hSw); go_simp; try with_reducible rfl⟩
                case s6_u30 => assumption
                try simp only [Act.put, List.setIfInBounds_toArray, List.set_cons_zero, List.set_cons_succ]
                with_reducible refine takeI2 (i := 3) (v := ?sv_u31) (oi := ?s0_u31) (by simp only [List.getElem?_toArray, List.getElem?_cons_succ, List.getElem?_cons_zero]; exact rfl) ?s1_u31 ?s2_u31 ?s3_u31 ?s4_u31 ?s5_u31 ?s6_u31 ?s7_u31
                case s1_u31 | s2_u31 | s3_u31 => kernel_rfl
                case s4_u31 => exact fun _ _ _ h => h
                case s5_u31 => exact Or.inl ⟨rfl, by intro w hSw; (try dsimp only at hSw); go_simp; try with_reducible rfl⟩
                case s6_u31 => assumption
                try simp only [Act.put, List.setIfInBounds_toArray, List.set_cons_zero, List.set_cons_succ]
                with_reducible refine takeI2 (i := 5) (v := ?sv_u32) (oi := ?s0_u32) (by simp only [List.getElem?_toArray, List.getElem?_cons_succ, List.getElem?_cons_zero]; exact rfl) ?s1_u32 ?s2_u32 ?s3_u32 ?s4_u32 ?s5_u32 ?s6_u32 ?s7_u32
                case s1_u32 | s2_u32 | s3_u32 => kernel_rfl
                case s4_u32 => exact fun _ _ _ h => h
                case s5_u32 => exact Or.inl ⟨rfl, by intro w hSw; (try dsimp only at hSw); go_simp; try with_reducible rfl⟩
                case s6_u32 => assumption
                try simp only [Act.put, List.setIfInBounds_toArray, List.set_cons_zero, List.set_cons_succ]
                with_reducible refine takeI2 (i := 6) (v := ?sv_u33) (oi := ?s0_u33) (by simp only [List.getElem?_toArray, List.getElem?_cons_succ, List.getElem?_cons_zero]; exact rfl) ?s1_u33 ?s2_u33 ?s3_u33 ?s4_u33 ?s5_u33 ?s6_u33 ?s7_u33
                case s1_u33 | s2_u33 | s3_u33 => kernel_rfl
                case s4_u33 => exact fun _ _ _ h => h
                case s5_u33 => exact Or.inl ⟨rfl, by intro w hSw; (try dsimp only at hSw); go_simp; try with_reducible rfl⟩
                case s6_u33 => assumption
                try simp only [Act.put, List.setIfInBounds_toArray, List.set_cons_zero, List.set_cons_succ]
                with_reducible refine takeI2 (i := 7) (v := ?sv_u34) (oi := ?s0_u34) (by simp only [List.getElem?_toArray, List.getElem?_cons_succ, List.getElem?_cons_zero]; exact rfl) ?s1_u34 ?s2_u34 ?s3_u34 ?s4_u34 ?s5_u34 ?s6_u34 ?s7_u34
                case s1_u34 | s2_u34 | s3_u34 => kernel_rfl
                case s4_u34 => exact fun _ _ _ h => h
                case s5_u34 => exact Or.inl ⟨rfl, by intro w hSw; (try dsimp only at hSw); go_simp; try with_reducible rfl⟩
                case s6_u34 => assumption
                try simp only [Act.put, List.setIfInBounds_toArray, List.set_cons_zero, List.set_cons_succ]
                with_reducible refine takeI2 (i := 8) (v := ?sv_u35) (oi := ?s0_u35) (by simp only [List.getElem?_toArray, List.getElem?_cons_succ, List.getElem?_cons_zero]; exact rfl) ?s1_u35 ?s2_u35 ?s3_u35 ?s4_u35 ?s5_u35 ?s6_u35 ?s7_u35
                case s1_u35 | s2_u35 | s3_u35 => kernel_rfl
                case s4_u35 => exact fun _ _ _ h => h
                case s5_u35 => exact Or.inl ⟨rfl, by intro w hSw; (try dsimp only at hSw); go_simp; try with_reducible rfl⟩
                case s6_u35 => assumption
                try simp only [Act.put, List.setIfInBounds_toArray, List.set_cons_zero, List.set_cons_succ]
                with_reducible refine wpAnyH_ready (rs := [4, 9]) ?s1_u36 (List.cons_ne_nil _ _) ?s2_u36
                case s1_u36 => kernel_rfl
                with_reducible refine AllReadyH.cons (o := ?b0_u36) (by simp only [List.getElem?_toArray, List.getElem?_cons_succ, List.getElem?_cons_zero]; exact rfl) ?b5_u36 (AllReadyH.cons (o := ?b1_u36) (by simp only [List.getElem?_toArray, List.getElem?_cons_succ, List.getElem?_cons_zero]; exact rfl) ?b6_u36 AllReadyH.nil)
                case b5_u36 =>
                  intro K hK
                  go_simp
                  skip
                  with_reducible refine hK.out _ _ ?s1_u37 (fun hHeld => ?s2_u37)
                  case s1_u37 => exact trivial
                  clear hK K
                  try simp only [Act.put, List.setIfInBounds_toArray, List.set_cons_zero, List.set_cons_succ]
                  with_reducible refine wpAnyH_ready (rs := [9]) ?s1_u38 (List.cons_ne_nil _ _) ?s2_u38
                  case s1_u38 => kernel_rfl
                  with_reducible refine AllReadyH.cons (o := ?b0_u38) (by simp only [List.getElem?_toArray, List.getElem?_cons_succ, List.getElem?_cons_zero]; exact rfl) ?b5_u38 AllReadyH.nil
                  case b5_u38 =>
                    intro K hK
                    go_simp
                    skip
                    with_reducible refine hK.out _ _ ?s1_u39 (fun hHeld => ?s2_u39)
                    case s1_u39 => exact trivial
                    clear hK K
                    try simp only [Act.put, List.setIfInBounds_toArray, List.set_cons_zero, List.set_cons_succ]
                    with_reducible refine takeI2 (i := 10) (v := ?sv_u40) (oi := ?s0_u40) (by simp only [List.getElem?_toArray, List.getElem?_cons_succ, List.getElem?_cons_zero]; exact rfl) ?s1_u40 ?s2_u40 ?s3_u40 ?s4_u40 ?s5_u40 ?s6_u40 ?s7_u40
                    case s1_u40 | s2_u40 | s3_u40 => kernel_rfl
                    case s4_u40 => exact fun _ _ _ h => h
                    case s5_u40 => exact Or.inl ⟨rfl, by intro w hSw; (try dsimp only at hSw); go_simp; try with_reducible rfl⟩
                    case s6_u40 => assumption
                    try simp only [Act.put, List.setIfInBounds_toArray, List.set_cons_zero, List.set_cons_succ]
                    with_reducible refine wpAnyH_ready (rs := [11]) ?s1_u41 (List.cons_ne_nil _ _) ?s2_u41
                    case s1_u41 => kernel_rfl
                    with_reducible refine AllReadyH.cons (o := ?b0_u41) (by simp only [List.getElem?_toArray, List.getElem?_cons_succ, List.getElem?_cons_zero]; exact rfl) ?b5_u41 AllReadyH.nil
                    case b5_u41 =>
                      intro K hK
                      go_simp
                      skip
                      with_reducible refine hK.out _ _ ?s1_u42 (fun hHeld => ?s2_u42)
                      case s1_u42 => exact trivial
                      clear hK K
                      try simp only [Act.put, List.setIfInBounds_toArray, List.set_cons_zero, List.set_cons_succ]
                      with_reducible refine takeI2 (i := 12) (v := ?sv_u43) (oi := ?s0_u43) (by simp only [List.getElem?_toArray, List.getElem?_cons_succ, List.getElem?_cons_zero]; exact rfl) ?s1_u43 ?s2_u43 ?s3_u43 ?s4_u43 ?s5_u43 ?s6_u43 ?s7_u43
                      case s1_u43 | s2_u43 | s3_u43 => kernel_rfl
                      case s4_u43 => exact fun _ _ _ h => h
                      case s5_u43 => exact Or.inl ⟨rfl, by intro w hSw; (try dsimp only at hSw); go_simp; try with_reducible rfl⟩
                      case s6_u43 => assumption
                      try simp only [Act.put, List.setIfInBounds_toArray, List.set_cons_zero, List.set_cons_succ]
                      have hs := ho.drew.rls x y
                      have hD2 := ho.drew.grown_below hD.drew hB2 hs.2
                      clear ho
                      with_reducible refine wpAnyH_ready (rs := [13]) ?s1_u44 one_ne ?s2_u44
                      case s1_u44 => kernel_rfl
                      with_reducible refine AllReadyH.cons (o := ?s0_u44) (by simp only [List.getElem?_toArray, List.getElem?_cons_succ, List.getElem?_cons_zero]; exact rfl) (fun K hK => ?s3_u44) AllReadyH.nil
                      go_simp
                      skip
                      with_reducible refine hK.out _ _ ?s1_u45 (fun hHeld => ?s2_u45)
                      case s1_u45 => exact trivial
                      clear hK K
                      try simp only [Act.put, List.setIfInBounds_toArray, List.set_cons_zero, List.set_cons_succ]
                      with_reducible refine wpAnyH_done ?s1_u46 ?s2_u46 _
                      case s1_u46 => kernel_rfl
                      go_wp2_with (fail)
                      exact ⟨⟨k + 1, by omega, by go_num, by rw [← HNX.out]; exact hs.1, hD2⟩, by simp [intOf]; omega⟩
                case b6_u36 =>
                  intro K hK
                  go_simp
                  skip
                  with_reducible refine hK.out _ _ ?s1_u47 (fun hHeld => ?s2_u47)
                  case s1_u47 => exact trivial
                  clear hK K
                  try simp only [Act.put, List.setIfInBounds_toArray, List.set_cons_zero, List.set_cons_succ]
                  with_reducible refine takeI2 (i := 10) (v := ?sv_u48) (oi := ?s0_u48) (by simp only [List.getElem?_toArray, List.getElem?_cons_succ, List.getElem?_cons_zero]; exact rfl) ?s1_u48 ?s2_u48 ?s3_u48 ?s4_u48 ?s5_u48 ?s6_u48 ?s7_u48
                  case s1_u48 | s2_u48 | s3_u48 => kernel_rfl
                  case s4_u48 => exact fun _ _ _ h => h
                  case s5_u48 => exact Or.inl ⟨rfl, by intro w hSw; (try dsimp only at hSw); go_simp; try with_reducible rfl⟩
                  case s6_u48 => assumption
                  try simp only [Act.put, List.setIfInBounds_toArray, List.set_cons_zero, List.set_cons_succ]
                  with_reducible refine wpAnyH_ready (rs := [4, 11]) ?s1_u49 (List.cons_ne_nil _ _) ?s2_u49
                  case s1_u49 => kernel_rfl
                  with_reducible refine AllReadyH.cons (o := ?b0_u49) (by simp only [List.getElem?_toArray, List.getElem?_cons_succ, List.getElem?_cons_zero]; exact rfl) ?b5_u49 (AllReadyH.cons (o := ?b1_u49) (by simp only [List.getElem?_toArray, List.getElem?_cons_succ, List.getElem?_cons_zero]; exact rfl) ?b6_u49 AllReadyH.nil)
                  case b5_u49 =>
                    intro K hK
                    go_simp
                    skip
                    with_reducible refine hK.out _ _ ?s1_u50 (fun hHeld => ?s2_u50)
                    case s1_u50 => exact trivial
                    clear hK K
                    try simp only [Act.put, List.setIfInBounds_toArray, List.set_cons_zero, List.set_cons_succ]
                    with_reducible refine wpAnyH_ready (rs := [11]) ?s1_u51 (List.cons_ne_nil _ _) ?s2_u51
                    case s1_u51 => kernel_rfl
                    with_reducible refine AllReadyH.cons (o := ?b0_u51) (by simp only [List.getElem?_toArray, List.getElem?_cons_succ, List.getElem?_cons_zero]; exact rfl) ?b5_u51 AllReadyH.nil
                    case b5_u51 =>
                      intro K hK
                      go_simp
                      skip
                      with_reducible refine hK.out _ _ ?s1_u52 (fun hHeld => ?s2_u52)
                      case s1_u52 => exact trivial
                      clear hK K
                      try simp only [Act.put, List.setIfInBounds_toArray, List.set_cons_zero, List.set_cons_succ]
                      with_reducible refine takeI2 (i := 12) (v := ?sv_u53) (oi := ?s0_u53) (by simp only [List.getElem?_toArray, List.getElem?_cons_succ, List.getElem?_cons_zero]; exact rfl) ?s1_u53 ?s2_u53 ?s3_u53 ?s4_u53 ?s5_u53 ?s6_u53 ?s7_u53
                      case s1_u53 | s2_u53 | s3_u53 => kernel_rfl
                      case s4_u53 => exact fun _ _ _ h => h
                      case s5_u53 => exact Or.inl ⟨rfl, by intro w hSw; (try dsimp only at hSw); go_simp; try with_reducible rfl⟩
                      case s6_u53 => assumption
                      try simp only [Act.put, List.setIfInBounds_toArray, List.set_cons_zero, List.set_cons_succ]
                      have hs := ho.drew.rls x y
                      have hD2 := ho.drew.grown_below hD.drew hB2 hs.2
                      clear ho
                      with_reducible refine wpAnyH_ready (rs := [13]) ?s1_u54 one_ne ?s2_u54
                      case s1_u54 => kernel_rfl
                      with_reducible refine AllReadyH.cons (o := ?s0_u54) (by simp only [List.getElem?_toArray, List.getElem?_cons_succ, List.getElem?_cons_zero]; exact rfl) (fun K hK => ?s3_u54) AllReadyH.nil
                      go_simp
                      skip
                      with_reducible refine hK.out _ _ ?s1_u55 (fun hHeld => ?s2_u55)
                      case s1_u55 => exact trivial
                      clear hK K
                      try simp only [Act.put, List.setIfInBounds_toArray, List.set_cons_zero, List.set_cons_succ]
                      with_reducible refine wpAnyH_done ?s1_u56 ?s2_u56 _
                      case s1_u56 => kernel_rfl
                      go_wp2_with (fail)
                      exact ⟨⟨k + 1, by omega, by go_num, by rw [← HNX.out]; exact hs.1, hD2⟩, by simp [intOf]; omega⟩
                  case b6_u49 =>
                    intro K hK
                    go_simp
                    skip
                    with_reducible refine hK.out _ _ ?s1_u57 (fun hHeld => ?s2_u57)
                    case s1_u57 => exact trivial
                    clear hK K
                    try simp only [Act.put, List.setIfInBounds_toArray, List.set_cons_zero, List.set_cons_succ]
                    with_reducible refine wpAnyH_ready (rs := [4]) ?s1_u58 (List.cons_ne_nil _ _) ?s2_u58
                    case s1_u58 => kernel_rfl
                    with_reducible refine AllReadyH.cons (o := ?b0_u58) (by simp only [List.getElem?_toArray, List.getElem?_cons_succ, List.getElem?_cons_zero]; exact rfl) ?b5_u58 AllReadyH.nil
                    case b5_u58 =>
                      intro K hK
                      go_simp
                      skip
                      with_reducible refine hK.out _ _ ?s1_u59 (fun hHeld => ?s2_u59)
                      case s1_u59 => exact trivial
                      clear hK K
                      try simp only [Act.put, List.setIfInBounds_toArray, List.set_cons_zero, List.set_cons_succ]
                      with_reducible refine takeI2 (i := 12) (v := ?sv_u60) (oi := ?s0_u60) (by simp only [List.getElem?_toArray, List.getElem?_cons_succ, List.getElem?_cons_zero]; exact rfl) ?s1_u60 ?s2_u60 ?s3_u60 ?s4_u60 ?s5_u60 ?s6_u60 ?s7_u60
                      case s1_u60 | s2_u60 | s3_u60 => kernel_rfl
                      case s4_u60 => exact fun _ _ _ h => h
                      case s5_u60 => exact Or.inl ⟨rfl, by intro w hSw; (try dsimp only at hSw); go_simp; try with_reducible rfl⟩
                      case s6_u60 => assumption
                      try simp only [Act.put, List.setIfInBounds_toArray, List.set_cons_zero, List.set_cons_succ]
                      have hs := ho.drew.rls x y
                      have hD2 := ho.drew.grown_below hD.drew hB2 hs.2
                      clear ho
                      with_reducible refine wpAnyH_ready (rs := [13]) ?s1_u61 one_ne ?s2_u61
                      case s1_u61 => kernel_rfl
                      with_reducible refine AllReadyH.cons (o := ?s0_u61) (by simp only [List.getElem?_toArray, List.getElem?_cons_succ, List.getElem?_cons_zero]; exact rfl) (fun K hK => ?s3_u61) AllReadyH.nil
                      go_simp
                      skip
                      with_reducible refine hK.out _ _ ?s1_u62 (fun hHeld => ?s2_u62)
                      case s1_u62 => exact trivial
                      clear hK K
                      try simp only [Act.put, List.setIfInBounds_toArray, List.set_cons_zero, List.set_cons_succ]
                      with_reducible refine wpAnyH_done ?s1_u63 ?s2_u63 _
                      case s1_u63 => kernel_rfl
                      go_wp2_with (fail)
                      exact ⟨⟨k + 1, by omega, by go_num, by rw [← HNX.out]; exact hs.1, hD2⟩, by simp [intOf]; omega⟩
              · obtain rfl : k = M := by omega
                rw [HFM.out] at ho
                have hW := ho.rd
                clear ho
                have hb0 : ((k : Int) == 0) = false := beq_eq_false_iff_ne.2 (by omega)
                have hb1 : decide ((S : Int) < (k : Int)) = false := decide_eq_false (by omega)
                have hb2 : (k == 0) = false := beq_eq_false_iff_ne.2 (by omega)
                have hb3 : decide (S < k) = false := decide_eq_false (by omega)
                have hnl : now.length = q := by rw [← HFM.out, rl_len]
                obtain ⟨m0, m1⟩ := HKK.out.hX.below hD
                go_wp2_with (fail)
                refine (HSW.out now _ _ _ _ (HKK.out.hR.below hD) (HKK.out.hP.below hD) hW).mono ?_
                rw [HFO.out.hang]
                rintro e w10 ⟨rfl, hb⟩
                replace hW := hW.below hb
                replace hD := bvia hD hb
                clear hb m0 m1 hb0 hb1 hb2 hb3
                have hE0 := Below.refl w10.heap.size w10
                go_wp2_with (fail)
                go_loopw [12] (fun i wr => ∃ t : Nat, t ≤ k ∧ (1 < k ∨ t = 0) ∧ i = .int .i64 t ∧ Below w10.heap.size w10 wr) (fun i _ => k - (intOf i).toNat)
                case atStart => exact ⟨0, Nat.zero_le _, .inr rfl, rfl, hE0⟩
                case round =>
                 focus
                  clear hE0
                  obtain ⟨t, ht, ht0, rfl, hE⟩ := hrel
                  obtain ⟨wo4, hwo4⟩ : ∃ wo4 : World, wo4 = wr := ⟨_, rfl⟩
                  subst hwo4
                  by_cases hk1 : 1 < k
                  · have qk1 : (1 : Int) < (k : Int) := by omega
                    by_cases htk : t < k
                    · have qt : (t : Int) < (k : Int) := by omega
                      obtain ⟨xi, hxi⟩ : ∃ xi, F[t]? = some xi := ⟨_, List.getElem?_eq_getElem (by rw [HM.out]; exact htk)⟩
                      obtain ⟨x, hxN, rfl, _, hnx⟩ := HFO.out.at_ xi (List.mem_of_getElem? hxi)
                      have hC := bvia hD hE
                      obtain ⟨q0, q1⟩ := HKK.out.hX.below hC.drew
                      have q2 := cell_on hC.drew (HKK.out.cF t _ hxi)
                      have hW2 := hW.below hE.drew
                      have hR2 := HKK.out.hR.below hC.drew
                      have HNX := Lib.hid hnx
                      clear hnx hC hxi
                      go_wp2_with (fail)
                      with_reducible refine region_beg (n := 8) (S := (fun w => w.cell? ⟨gx, 0, none⟩ = some (.int .i64 (q : Int)) ∧ w.cell? ⟨gx, 1, none⟩ = some (.slice al zs.length cl) ∧ w.cell? ⟨bf, of + t, none⟩ = some (.int .i64 (x : Int)))) ?b1_u64 ?b2_u64 ?b3_u64 (fun hHeld => ?b4_u64)
                      case b1_u64 => kernel_rfl
                      case b2_u64 => kernel_rfl
                      case b3_u64 => exact ⟨q0, q1, q2⟩
                      with_reducible refine takeI2 (i := 0) (v := ?sv_u65) (oi := ?s0_u65) (by simp only [List.getElem?_toArray, List.getElem?_cons_succ, List.getElem?_cons_zero]; exact rfl) ?s1_u65 ?s2_u65 ?s3_u65 ?s4_u65 ?s5_u65 ?s6_u65 ?s7_u65
                      case s1_u65 | s2_u65 | s3_u65 => kernel_rfl
                      case s4_u65 => exact fun _ _ _ h => h
                      case s5_u65 => exact Or.inl ⟨rfl, by intro w hSw; (try dsimp only at hSw); go_simp; try with_reducible rfl⟩
                      case s6_u65 => assumption
                      try simp only [Act.put, List.setIfInBounds_toArray, List.set_cons_zero, List.set_cons_succ]
                      with_reducible refine takeI2 (i := 1) (v := ?sv_u66) (oi := ?s0_u66) (by simp only [List.getElem?_toArray, List.getElem?_cons_succ, List.getElem?_cons_zero]; exact rfl) ?s1_u66 ?s2_u66 ?s3_u66 ?s4_u66 ?s5_u66 ?s6_u66 ?s7_u66
                      case s1_u66 | s2_u66 | s3_u66 => kernel_rfl
                      case s4_u66 => exact fun _ _ _ h => h
                      case s5_u66 => exact Or.inl ⟨rfl, by intro w hSw; (try dsimp only at hSw); go_simp; try with_reducible rfl⟩
                      case s6_u66 => assumption
                      try simp only [Act.put, List.setIfInBounds_toArray, List.set_cons_zero, List.set_cons_succ]
                      with_reducible refine takeI2 (i := 2) (v := ?sv_u67) (oi := ?s0_u67) (by simp only [List.getElem?_toArray, List.getElem?_cons_succ, List.getElem?_cons_zero]; exact rfl) ?s1_u67 ?s2_u67 ?s3_u67 ?s4_u67 ?s5_u67 ?s6_u67 ?s7_u67
                      case s1_u67 | s2_u67 | s3_u67 => kernel_rfl
                      case s4_u67 => exact fun _ _ _ h => h
                      case s5_u67 => exact Or.inl ⟨rfl, by intro w hSw; (try dsimp only at hSw); go_simp; try with_reducible rfl⟩
                      case s6_u67 => assumption
                      try simp only [Act.put, List.setIfInBounds_toArray, List.set_cons_zero, List.set_cons_succ]
                      with_reducible refine takeI2 (i := 3) (v := ?sv_u68) (oi := ?s0_u68) (by simp only [List.getElem?_toArray, List.getElem?_cons_succ, List.getElem?_cons_zero]; exact rfl) ?s1_u68 ?s2_u68 ?s3_u68 ?s4_u68 ?s5_u68 ?s6_u68 ?s7_u68
                      case s1_u68 | s2_u68 | s3_u68 => kernel_rfl
                      case s4_u68 => exact fun _ _ _ h => h
                      case s5_u68 => exact Or.inl ⟨rfl, by intro w hSw; (try dsimp only at hSw); go_simp; try with_reducible rfl⟩
                      case s6_u68 => assumption
                      try simp only [Act.put, List.setIfInBounds_toArray, List.set_cons_zero, List.set_cons_succ]
                      with_reducible refine takeI2 (i := 4) (v := ?sv_u69) (oi := ?s0_u69) (by simp only [List.getElem?_toArray, List.getElem?_cons_succ, List.getElem?_cons_zero]; exact rfl) ?s1_u69 ?s2_u69 ?s3_u69 ?s4_u69 ?s5_u69 ?s6_u69 ?s7_u69
                      case s1_u69 | s2_u69 | s3_u69 => kernel_rfl
                      case s4_u69 => exact fun _ _ _ h => h
                      case s5_u69 => exact Or.inl ⟨rfl, by intro w hSw; (try dsimp only at hSw); go_simp; try with_reducible rfl⟩
                      case s6_u69 => assumption
                      try simp only [Act.put, List.setIfInBounds_toArray, List.set_cons_zero, List.set_cons_succ]
                      with_reducible refine takeI2 (i := 5) (v := ?sv_u70) (oi := ?s0_u70) (by simp only [List.getElem?_toArray, List.getElem?_cons_succ, List.getElem?_cons_zero]; exact rfl) ?s1_u70 ?s2_u70 ?s3_u70 ?s4_u70 ?s5_u70 ?s6_u70 ?s7_u70
                      case s1_u70 | s2_u70 | s3_u70 => kernel_rfl
                      case s4_u70 => exact fun _ _ _ h => h
                      case s5_u70 => exact Or.inl ⟨rfl, by intro w hSw; (try dsimp only at hSw); go_simp; try with_reducible rfl⟩
                      case s6_u70 => assumption
                      try simp only [Act.put, List.setIfInBounds_toArray, List.set_cons_zero, List.set_cons_succ]
                      with_reducible refine wpAnyH_ready (rs := [6]) ?s1_u71 one_ne ?s2_u71
                      case s1_u71 => kernel_rfl
                      with_reducible refine AllReadyH.cons (o := ?s0_u71) (by simp only [List.getElem?_toArray, List.getElem?_cons_succ, List.getElem?_cons_zero]; exact rfl) (fun K hK => ?s3_u71) AllReadyH.nil
                      go_simp
                      refine (HNW.out now _ _ _ _ hR2 hW2).mono ?_
                      rw [HNX.out]
                      rintro e w11 ⟨rfl, hb⟩
                      replace q0 := cell_on hb q0
                      replace q1 := cell_on hb q1
                      replace q2 := cell_on hb q2
                      replace hE := bvia hE.drew hb
                      clear hb hR2 hW2
                      go_wp2_with fail
                      with_reducible refine hK.out _ _ ?s1_u72 (fun hHeld => ?s2_u72)
                      case s1_u72 => exact ⟨q0, q1, q2⟩
                      clear hK K
                      try simp only [Act.put, List.setIfInBounds_toArray, List.set_cons_zero, List.set_cons_succ]
                      with_reducible refine takeI2 (i := 7) (v := ?sv_u73) (oi := ?s0_u73) (by simp only [List.getElem?_toArray, List.getElem?_cons_succ, List.getElem?_cons_zero]; exact rfl) ?s1_u73 ?s2_u73 ?s3_u73 ?s4_u73 ?s5_u73 ?s6_u73 ?s7_u73
                      case s1_u73 | s2_u73 | s3_u73 => kernel_rfl
                      case s4_u73 => exact fun _ _ _ h => h
                      case s5_u73 => exact Or.inl ⟨rfl, by intro w hSw; (try dsimp only at hSw); go_simp; try with_reducible rfl⟩
                      case s6_u73 => assumption
                      try simp only [Act.put, List.setIfInBounds_toArray, List.set_cons_zero, List.set_cons_succ]
                      with_reducible refine wpAnyH_done ?s1_u74 ?s2_u74 _
                      case s1_u74 => kernel_rfl
                      go_wp2_with (fail)
                      exact ⟨⟨t + 1, by omega, .inl hk1, by go_num, hE⟩, by simp [intOf]; omega⟩
                    · have hS1 : ¬ S = 1 := by omega
                      clear ht0
                      replace hD := bvia hD hE
                      clear hE hW
                      have qS : (1 : Int) < (S : Int) := by omega
                      have qS2 : 1 < S := by omega
                      go_wp2_with (fail)
                      go_loopw [13] (fun i wr => ∃ j : Nat, j ≤ q ∧ i = .int .i64 j ∧ Below w5.heap.size w5 wr) (fun i _ => q - (intOf i).toNat)
                      case atStart => exact ⟨0, Nat.zero_le _, rfl, hD⟩
                      case round =>
                       focus
                        clear hD
                        obtain ⟨j, hj, rfl, hD⟩ := hrel
                        obtain ⟨wo5, hwo5⟩ : ∃ wo5 : World, wo5 = wr := ⟨_, rfl⟩
                        subst hwo5
                        obtain ⟨m0, m1⟩ := HKK.out.hX.below hD
                        by_cases hjq : j < q
                        · have qj : (j : Int) < (q : Int) := by omega
                          have hst : 1 < strN ps := by rw [HS.out]; exact qS2
                          have HW1 := Lib.hid (fun v w' h => implWithoutString_any ps (j : Int) (by have := HPL.out; omega) v w' h)
                          rw [wout_at HPL.out hjq] at HW1
                          have hset := set_pulls HOK.out hst hjq
                          have HI1 := Lib.hid (fun u v w' h h' => implHangPose_any q zs (ps.set j (-1)) hset u v w' h h')
                          rw [poseL_eq] at HI1
                          have HFA := Lib.hid (fun u v w' h h' => implFallOf_any q zs ps (j : Int) u v w' h h')
                          have hdf := fall_diff HOK.out hst hjq
                          have hle := fun i => set_le HOK.out hst hjq i
                          have hsf := same_fall HOK.out hst hjq
                          have hnf := need_fallB HOK.out hst hjq
                          have hbx := pose_bd HOK.out hjq
                          have hby := pose_bd hset hjq
                          rw [HFE.out] at hdf hbx
                          simp only [HFE.out] at hle
                          generalize hp (fill q (edges zs)) (pf (ps.set j (-1))) q = f2 at HI1 hdf hle hby
                          generalize fallV q zs ps j = d at HFA hdf hsf hnf
                          have HLE := Lib.hid hle
                          have HSN := Lib.hid (And.intro hsf hnf)
                          have HDF := Lib.hid (And.intro hdf (And.intro hbx hby))
                          clear hst hset hdf hle hsf hnf hbx hby
                          go_wp2_with (fail)
                          refine (HW1.out _ _ (HKK.out.hP.below hD)).mono ?_
                          rintro e w11 ⟨ux, rfl, ox, hb⟩
                          replace hD := bvia hD hb
                          have hq2 := ox.rd
                          clear hb ox m0 m1 HW1
                          obtain ⟨m0, m1⟩ := HKK.out.hX.below hD
                          go_wp2_with (fail)
                          refine (HFA.out _ _ _ (HKK.out.hR.below hD) (HKK.out.hP.below hD)).mono ?_
                          rintro e w12 ⟨rfl, hb⟩
                          replace hD := bvia hD hb
                          replace hq2 := hq2.below hb
                          clear hb m0 m1 HFA
                          obtain ⟨m0, m1⟩ := HKK.out.hX.below hD
                          go_wp2_with (fail)
                          refine (HI1.out _ _ _ (HKK.out.hR.below hD) hq2).mono ?_
                          rintro e w13 ⟨ul, rfl, ol, hb⟩
                          replace hD := bvia hD hb
                          replace hq2 := hq2.below hb
                          have hl := ol.rd
                          obtain ⟨aL, cL, bL, oL, rfl, haL, hcL⟩ := hl.rlc
                          obtain rfl := haL (by omega)
                          have HCL := Lib.hid hcL
                          clear hb m0 m1 HI1 ol hl haL hcL
                          have hwx : IntKind.i64.wrap (f j - f2 j) = d := by
                            have h := HDF.out
                            rw [h.1]
                            exact IntWalk.i64_in _ (by omega)
                          have hd0 : 0 ≤ d := by
                            have h := HDF.out
                            have h2 := HLE.out j
                            omega
                          clear HDF
                          have q2 := cell_on hD.drew (HKK.out.cH j hjq)
                          have q3 := cell_on (dr1 w13).below (HCL.out j hjq)
                          generalize f j = x at hwx q2
                          generalize f2 j = y at hwx q3
                          have hdn : decide (d < 0) = false := decide_eq_false (by omega)
                          have hqq : ((q : Int) == (q : Int)) = true := beq_self_eq_true _
                          by_cases hd1 : 0 < d
                          · have hd2 : (d == 0) = false := beq_eq_false_iff_ne.2 (by omega)
                            have hsn := HSN.out
                            rw [decide_eq_true hd1, decide_eq_false (show ¬ d = 0 by omega)] at hsn
                            have HSN2 := Lib.hid hsn
                            clear hsn HSN
                            go_wp2_with (fail)
                            obtain ⟨q0, q1⟩ := HKK.out.hX.below hD.drew
                            replace hD := hD.drew
                            replace hq2 := hq2.below (dr1 w13).below
                            replace HCL := Lib.hid (fun k hk => cell_on (dr1 w13).below (HCL.out k hk))
                            with_reducible refine region_beg (n := 40) (S := (fun w => w.cell? ⟨gx, 0, none⟩ = some (.int .i64 (q : Int)) ∧ w.cell? ⟨gx, 1, none⟩ = some (.slice al zs.length cl) ∧ w.cell? ⟨bh, oi + j, none⟩ = some (.int .i64 x) ∧ w.cell? ⟨bL, oL + j, none⟩ = some (.int .i64 y))) ?b1_u86v1z1 ?b2_u86v1z1 ?b3_u86v1z1 (fun hHeld => ?b4_u86v1z1)
                            case b1_u86v1z1 => kernel_rfl
                            case b2_u86v1z1 => kernel_rfl
                            case b3_u86v1z1 => exact ⟨q0, q1, q2, q3⟩
                            with_reducible refine takeI2 (i := 0) (v := ?sv_u87v1z1) (oi := ?s0_u87v1z1) (by simp only [List.getElem?_toArray, List.getElem?_cons_succ, List.getElem?_cons_zero]; exact rfl) ?s1_u87v1z1 ?s2_u87v1z1 ?s3_u87v1z1 ?s4_u87v1z1 ?s5_u87v1z1 ?s6_u87v1z1 ?s7_u87v1z1
                            case s1_u87v1z1 | s2_u87v1z1 | s3_u87v1z1 => kernel_rfl
                            case s4_u87v1z1 => exact fun _ _ _ h => h
                            case s5_u87v1z1 => exact Or.inl ⟨rfl, by intro w hSw; (try dsimp only at hSw); go_simp; try with_reducible rfl⟩
                            case s6_u87v1z1 => assumption
                            try simp only [Act.put, List.setIfInBounds_toArray, List.set_cons_zero, List.set_cons_succ]
                            with_reducible refine takeI2 (i := 1) (v := ?sv_u88v1z1) (oi := ?s0_u88v1z1) (by simp only [List.getElem?_toArray, List.getElem?_cons_succ, List.getElem?_cons_zero]; exact rfl) ?s1_u88v1z1 ?s2_u88v1z1 ?s3_u88v1z1 ?s4_u88v1z1 ?s5_u88v1z1 ?s6_u88v1z1 ?s7_u88v1z1
                            case s1_u88v1z1 | s2_u88v1z1 | s3_u88v1z1 => kernel_rfl
                            case s4_u88v1z1 => exact fun _ _ _ h => h
                            case s5_u88v1z1 => exact Or.inl ⟨rfl, by intro w hSw; (try dsimp only at hSw); go_simp; try with_reducible rfl⟩
                            case s6_u88v1z1 => assumption
                            try simp only [Act.put, List.setIfInBounds_toArray, List.set_cons_zero, List.set_cons_succ]
                            with_reducible refine takeI2 (i := 2) (v := ?sv_u89v1z1) (oi := ?s0_u89v1z1) (by simp only [List.getElem?_toArray, List.getElem?_cons_succ, List.getElem?_cons_zero]; exact rfl) ?s1_u89v1z1 ?s2_u89v1z1 ?s3_u89v1z1 ?s4_u89v1z1 ?s5_u89v1z1 ?s6_u89v1z1 ?s7_u89v1z1
                            case s1_u89v1z1 | s2_u89v1z1 | s3_u89v1z1 => kernel_rfl
                            case s4_u89v1z1 => exact fun _ _ _ h => h
                            case s5_u89v1z1 => exact Or.inl ⟨rfl, by intro w hSw; (try dsimp only at hSw); go_simp; try with_reducible rfl⟩
                            case s6_u89v1z1 => assumption
                            try simp only [Act.put, List.setIfInBounds_toArray, List.set_cons_zero, List.set_cons_succ]
                            with_reducible refine takeI2 (i := 3) (v := ?sv_u90v1z1) (oi := ?s0_u90v1z1) (by simp only [List.getElem?_toArray, List.getElem?_cons_succ, List.getElem?_cons_zero]; exact rfl) ?s1_u90v1z1 ?s2_u90v1z1 ?s3_u90v1z1 ?s4_u90v1z1 ?s5_u90v1z1 ?s6_u90v1z1 ?s7_u90v1z1
                            case s1_u90v1z1 | s2_u90v1z1 | s3_u90v1z1 => kernel_rfl
                            case s4_u90v1z1 => exact fun _ _ _ h => h
                            case s5_u90v1z1 => exact Or.inl ⟨rfl, by intro w hSw; (try dsimp only at hSw); go_simp; try with_reducible rfl⟩
                            case s6_u90v1z1 => assumption
                            try simp only [Act.put, List.setIfInBounds_toArray, List.set_cons_zero, List.set_cons_succ]
                            with_reducible refine takeI2 (i := 4) (v := ?sv_u91v1z1) (oi := ?s0_u91v1z1) (by simp only [List.getElem?_toArray, List.getElem?_cons_succ, List.getElem?_cons_zero]; exact rfl) ?s1_u91v1z1 ?s2_u91v1z1 ?s3_u91v1z1 ?s4_u91v1z1 ?s5_u91v1z1 ?s6_u91v1z1 ?s7_u91v1z1
                            case s1_u91v1z1 | s2_u91v1z1 | s3_u91v1z1 => kernel_rfl
                            case s4_u91v1z1 => exact fun _ _ _ h => h
                            case s5_u91v1z1 => exact Or.inl ⟨rfl, by intro w hSw; (try dsimp only at hSw); go_simp; try with_reducible rfl⟩
                            case s6_u91v1z1 => assumption
                            try simp only [Act.put, List.setIfInBounds_toArray, List.set_cons_zero, List.set_cons_succ]
                            with_reducible refine takeI2 (i := 5) (v := ?sv_u92v1z1) (oi := ?s0_u92v1z1) (by simp only [List.getElem?_toArray, List.getElem?_cons_succ, List.getElem?_cons_zero]; exact rfl) ?s1_u92v1z1 ?s2_u92v1z1 ?s3_u92v1z1 ?s4_u92v1z1 ?s5_u92v1z1 ?s6_u92v1z1 ?s7_u92v1z1
                            case s1_u92v1z1 | s2_u92v1z1 | s3_u92v1z1 => kernel_rfl
                            case s4_u92v1z1 => exact fun _ _ _ h => h
                            case s5_u92v1z1 => exact Or.inl ⟨rfl, by intro w hSw; (try dsimp only at hSw); go_simp; try with_reducible rfl⟩
                            case s6_u92v1z1 => assumption
                            try simp only [Act.put, List.setIfInBounds_toArray, List.set_cons_zero, List.set_cons_succ]
                            with_reducible refine takeI2 (i := 6) (v := ?sv_u93v1z1) (oi := ?s0_u93v1z1) (by simp only [List.getElem?_toArray, List.getElem?_cons_succ, List.getElem?_cons_zero]; exact rfl) ?s1_u93v1z1 ?s2_u93v1z1 ?s3_u93v1z1 ?s4_u93v1z1 ?s5_u93v1z1 ?s6_u93v1z1 ?s7_u93v1z1
                            case s1_u93v1z1 | s2_u93v1z1 | s3_u93v1z1 => kernel_rfl
                            case s4_u93v1z1 => exact fun _ _ _ h => h
                            case s5_u93v1z1 => exact Or.inl ⟨rfl, by intro w hSw; (try dsimp only at hSw); go_simp; try with_reducible rfl⟩
                            case s6_u93v1z1 => assumption
                            try simp only [Act.put, List.setIfInBounds_toArray, List.set_cons_zero, List.set_cons_succ]
                            with_reducible refine takeI2 (i := 7) (v := ?sv_u94v1z1) (oi := ?s0_u94v1z1) (by simp only [List.getElem?_toArray, List.getElem?_cons_succ, List.getElem?_cons_zero]; exact rfl) ?s1_u94v1z1 ?s2_u94v1z1 ?s3_u94v1z1 ?s4_u94v1z1 ?s5_u94v1z1 ?s6_u94v1z1 ?s7_u94v1z1
                            case s1_u94v1z1 | s2_u94v1z1 | s3_u94v1z1 => kernel_rfl
                            case s4_u94v1z1 => exact fun _ _ _ h => h
                            case s5_u94v1z1 => exact Or.inl ⟨rfl, by intro w hSw; (try dsimp only at hSw); go_simp; try with_reducible rfl⟩
                            case s6_u94v1z1 => assumption
                            try simp only [Act.put, List.setIfInBounds_toArray, List.set_cons_zero, List.set_cons_succ]
                            with_reducible refine takeI2 (i := 8) (v := ?sv_u95v1z1) (oi := ?s0_u95v1z1) (by simp only [List.getElem?_toArray, List.getElem?_cons_succ, List.getElem?_cons_zero]; exact rfl) ?s1_u95v1z1 ?s2_u95v1z1 ?s3_u95v1z1 ?s4_u95v1z1 ?s5_u95v1z1 ?s6_u95v1z1 ?s7_u95v1z1
                            case s1_u95v1z1 | s2_u95v1z1 | s3_u95v1z1 => kernel_rfl
                            case s4_u95v1z1 => exact fun _ _ _ h => h
                            case s5_u95v1z1 => exact Or.inl ⟨rfl, by intro w hSw; (try dsimp only at hSw); go_simp; try with_reducible rfl⟩
                            case s6_u95v1z1 => assumption
                            try simp only [Act.put, List.setIfInBounds_toArray, List.set_cons_zero, List.set_cons_succ]
                            with_reducible refine takeI2 (i := 9) (v := ?sv_u96v1z1) (oi := ?s0_u96v1z1) (by simp only [List.getElem?_toArray, List.getElem?_cons_succ, List.getElem?_cons_zero]; exact rfl) ?s1_u96v1z1 ?s2_u96v1z1 ?s3_u96v1z1 ?s4_u96v1z1 ?s5_u96v1z1 ?s6_u96v1z1 ?s7_u96v1z1
                            case s1_u96v1z1 | s2_u96v1z1 | s3_u96v1z1 => kernel_rfl
                            case s4_u96v1z1 => exact fun _ _ _ h => h
                            case s5_u96v1z1 => exact Or.inl ⟨rfl, by intro w hSw; (try dsimp only at hSw); go_simp; try with_reducible rfl⟩
                            case s6_u96v1z1 => assumption
                            try simp only [Act.put, List.setIfInBounds_toArray, List.set_cons_zero, List.set_cons_succ]
                            with_reducible refine takeI2 (i := 10) (v := ?sv_u97v1z1) (oi := ?s0_u97v1z1) (by simp only [List.getElem?_toArray, List.getElem?_cons_succ, List.getElem?_cons_zero]; exact rfl) ?s1_u97v1z1 ?s2_u97v1z1 ?s3_u97v1z1 ?s4_u97v1z1 ?s5_u97v1z1 ?s6_u97v1z1 ?s7_u97v1z1
                            case s1_u97v1z1 | s2_u97v1z1 | s3_u97v1z1 => kernel_rfl
                            case s4_u97v1z1 => exact fun _ _ _ h => h
                            case s5_u97v1z1 => exact Or.inl ⟨rfl, by intro w hSw; (try dsimp only at hSw); go_simp; try with_reducible rfl⟩
                            case s6_u97v1z1 => assumption
                            try simp only [Act.put, List.setIfInBounds_toArray, List.set_cons_zero, List.set_cons_succ]
                            with_reducible refine takeI2 (i := 11) (v := ?sv_u98v1z1) (oi := ?s0_u98v1z1) (by simp only [List.getElem?_toArray, List.getElem?_cons_succ, List.getElem?_cons_zero]; exact rfl) ?s1_u98v1z1 ?s2_u98v1z1 ?s3_u98v1z1 ?s4_u98v1z1 ?s5_u98v1z1 ?s6_u98v1z1 ?s7_u98v1z1
                            case s1_u98v1z1 | s2_u98v1z1 | s3_u98v1z1 => kernel_rfl
                            case s4_u98v1z1 => exact fun _ _ _ h => h
                            case s5_u98v1z1 => exact Or.inl ⟨rfl, by intro w hSw; (try dsimp only at hSw); go_simp; try with_reducible rfl⟩
                            case s6_u98v1z1 => assumption
                            try simp only [Act.put, List.setIfInBounds_toArray, List.set_cons_zero, List.set_cons_succ]
                            with_reducible refine takeI2 (i := 12) (v := ?sv_u99v1z1) (oi := ?s0_u99v1z1) (by simp only [List.getElem?_toArray, List.getElem?_cons_succ, List.getElem?_cons_zero]; exact rfl) ?s1_u99v1z1 ?s2_u99v1z1 ?s3_u99v1z1 ?s4_u99v1z1 ?s5_u99v1z1 ?s6_u99v1z1 ?s7_u99v1z1
                            case s1_u99v1z1 | s2_u99v1z1 | s3_u99v1z1 => kernel_rfl
                            case s4_u99v1z1 => exact fun _ _ _ h => h
                            case s5_u99v1z1 => exact Or.inl ⟨rfl, by intro w hSw; (try dsimp only at hSw); go_simp; try with_reducible rfl⟩
                            case s6_u99v1z1 => assumption
                            try simp only [Act.put, List.setIfInBounds_toArray, List.set_cons_zero, List.set_cons_succ]
                            with_reducible refine takeI2 (i := 13) (v := ?sv_u100v1z1) (oi := ?s0_u100v1z1) (by simp only [List.getElem?_toArray, List.getElem?_cons_succ, List.getElem?_cons_zero]; exact rfl) ?s1_u100v1z1 ?s2_u100v1z1 ?s3_u100v1z1 ?s4_u100v1z1 ?s5_u100v1z1 ?s6_u100v1z1 ?s7_u100v1z1
                            case s1_u100v1z1 | s2_u100v1z1 | s3_u100v1z1 => kernel_rfl
                            case s4_u100v1z1 => exact fun _ _ _ h => h
                            case s5_u100v1z1 => exact Or.inl ⟨rfl, by intro w hSw; (try dsimp only at hSw); go_simp; try with_reducible rfl⟩
                            case s6_u100v1z1 => assumption
                            try simp only [Act.put, List.setIfInBounds_toArray, List.set_cons_zero, List.set_cons_succ]
                            with_reducible refine takeI2 (i := 14) (v := ?sv_u101v1z1) (oi := ?s0_u101v1z1) (by simp only [List.getElem?_toArray, List.getElem?_cons_succ, List.getElem?_cons_zero]; exact rfl) ?s1_u101v1z1 ?s2_u101v1z1 ?s3_u101v1z1 ?s4_u101v1z1 ?s5_u101v1z1 ?s6_u101v1z1 ?s7_u101v1z1
                            case s1_u101v1z1 | s2_u101v1z1 | s3_u101v1z1 => kernel_rfl
                            case s4_u101v1z1 => exact fun _ _ _ h => h
                            case s5_u101v1z1 => exact Or.inl ⟨rfl, by intro w hSw; (try dsimp only at hSw); go_simp; try with_reducible rfl⟩
                            case s6_u101v1z1 => assumption
                            try simp only [Act.put, List.setIfInBounds_toArray, List.set_cons_zero, List.set_cons_succ]
                            with_reducible refine takeI2 (i := 15) (v := ?sv_u102v1z1) (oi := ?s0_u102v1z1) (by simp only [List.getElem?_toArray, List.getElem?_cons_succ, List.getElem?_cons_zero]; exact rfl) ?s1_u102v1z1 ?s2_u102v1z1 ?s3_u102v1z1 ?s4_u102v1z1 ?s5_u102v1z1 ?s6_u102v1z1 ?s7_u102v1z1
                            case s1_u102v1z1 | s2_u102v1z1 | s3_u102v1z1 => kernel_rfl
                            case s4_u102v1z1 => exact fun _ _ _ h => h
                            case s5_u102v1z1 => exact Or.inl ⟨rfl, by intro w hSw; (try dsimp only at hSw); go_simp; try with_reducible rfl⟩
                            case s6_u102v1z1 => assumption
                            try simp only [Act.put, List.setIfInBounds_toArray, List.set_cons_zero, List.set_cons_succ]
                            with_reducible refine takeI2 (i := 16) (v := ?sv_u103v1z1) (oi := ?s0_u103v1z1) (by simp only [List.getElem?_toArray, List.getElem?_cons_succ, List.getElem?_cons_zero]; exact rfl) ?s1_u103v1z1 ?s2_u103v1z1 ?s3_u103v1z1 ?s4_u103v1z1 ?s5_u103v1z1 ?s6_u103v1z1 ?s7_u103v1z1
                            case s1_u103v1z1 | s2_u103v1z1 | s3_u103v1z1 => kernel_rfl
                            case s4_u103v1z1 => exact fun _ _ _ h => h
                            case s5_u103v1z1 => exact Or.inl ⟨rfl, by intro w hSw; (try dsimp only at hSw); go_simp; try with_reducible rfl⟩
                            case s6_u103v1z1 => assumption
                            try simp only [Act.put, List.setIfInBounds_toArray, List.set_cons_zero, List.set_cons_succ]
                            with_reducible refine takeI2 (i := 17) (v := ?sv_u104v1z1) (oi := ?s0_u104v1z1) (by simp only [List.getElem?_toArray, List.getElem?_cons_succ, List.getElem?_cons_zero]; exact rfl) ?s1_u104v1z1 ?s2_u104v1z1 ?s3_u104v1z1 ?s4_u104v1z1 ?s5_u104v1z1 ?s6_u104v1z1 ?s7_u104v1z1
                            case s1_u104v1z1 | s2_u104v1z1 | s3_u104v1z1 => kernel_rfl
                            case s4_u104v1z1 => exact fun _ _ _ h => h
                            case s5_u104v1z1 => exact Or.inl ⟨rfl, by intro w hSw; (try dsimp only at hSw); go_simp; try with_reducible rfl⟩
                            case s6_u104v1z1 => assumption
                            try simp only [Act.put, List.setIfInBounds_toArray, List.set_cons_zero, List.set_cons_succ]
                            with_reducible refine takeI2 (i := 18) (v := ?sv_u105v1z1) (oi := ?s0_u105v1z1) (by simp only [List.getElem?_toArray, List.getElem?_cons_succ, List.getElem?_cons_zero]; exact rfl) ?s1_u105v1z1 ?s2_u105v1z1 ?s3_u105v1z1 ?s4_u105v1z1 ?s5_u105v1z1 ?s6_u105v1z1 ?s7_u105v1z1
                            case s1_u105v1z1 | s2_u105v1z1 | s3_u105v1z1 => kernel_rfl
                            case s4_u105v1z1 => exact fun _ _ _ h => h
                            case s5_u105v1z1 => exact Or.inl ⟨rfl, by intro w hSw; (try dsimp only at hSw); go_simp; try with_reducible rfl⟩
                            case s6_u105v1z1 => assumption
                            try simp only [Act.put, List.setIfInBounds_toArray, List.set_cons_zero, List.set_cons_succ]
                            with_reducible refine takeI2 (i := 19) (v := ?sv_u106v1z1) (oi := ?s0_u106v1z1) (by simp only [List.getElem?_toArray, List.getElem?_cons_succ, List.getElem?_cons_zero]; exact rfl) ?s1_u106v1z1 ?s2_u106v1z1 ?s3_u106v1z1 ?s4_u106v1z1 ?s5_u106v1z1 ?s6_u106v1z1 ?s7_u106v1z1
                            case s1_u106v1z1 | s2_u106v1z1 | s3_u106v1z1 => kernel_rfl
                            case s4_u106v1z1 => exact fun _ _ _ h => h
                            case s5_u106v1z1 => exact Or.inl ⟨rfl, by intro w hSw; (try dsimp only at hSw); go_simp; try with_reducible rfl⟩
                            case s6_u106v1z1 => assumption
                            try simp only [Act.put, List.setIfInBounds_toArray, List.set_cons_zero, List.set_cons_succ]
                            with_reducible refine takeI2 (i := 20) (v := ?sv_u107v1z1) (oi := ?s0_u107v1z1) (by simp only [List.getElem?_toArray, List.getElem?_cons_succ, List.getElem?_cons_zero]; exact rfl) ?s1_u107v1z1 ?s2_u107v1z1 ?s3_u107v1z1 ?s4_u107v1z1 ?s5_u107v1z1 ?s6_u107v1z1 ?s7_u107v1z1
                            case s1_u107v1z1 | s2_u107v1z1 | s3_u107v1z1 => kernel_rfl
                            case s4_u107v1z1 => exact fun _ _ _ h => h
                            case s5_u107v1z1 => exact Or.inl ⟨rfl, by intro w hSw; (try dsimp only at hSw); go_simp; try with_reducible rfl⟩
                            case s6_u107v1z1 => assumption
                            try simp only [Act.put, List.setIfInBounds_toArray, List.set_cons_zero, List.set_cons_succ]
                            with_reducible refine takeI2 (i := 21) (v := ?sv_u108v1z1) (oi := ?s0_u108v1z1) (by simp only [List.getElem?_toArray, List.getElem?_cons_succ, List.getElem?_cons_zero]; exact rfl) ?s1_u108v1z1 ?s2_u108v1z1 ?s3_u108v1z1 ?s4_u108v1z1 ?s5_u108v1z1 ?s6_u108v1z1 ?s7_u108v1z1
                            case s1_u108v1z1 | s2_u108v1z1 | s3_u108v1z1 => kernel_rfl
                            case s4_u108v1z1 => exact fun _ _ _ h => h
                            case s5_u108v1z1 => exact Or.inl ⟨rfl, by intro w hSw; (try dsimp only at hSw); go_simp; try with_reducible rfl⟩
                            case s6_u108v1z1 => assumption
                            try simp only [Act.put, List.setIfInBounds_toArray, List.set_cons_zero, List.set_cons_succ]
                            with_reducible refine takeI2 (i := 22) (v := ?sv_u109v1z1) (oi := ?s0_u109v1z1) (by simp only [List.getElem?_toArray, List.getElem?_cons_succ, List.getElem?_cons_zero]; exact rfl) ?s1_u109v1z1 ?s2_u109v1z1 ?s3_u109v1z1 ?s4_u109v1z1 ?s5_u109v1z1 ?s6_u109v1z1 ?s7_u109v1z1
                            case s1_u109v1z1 | s2_u109v1z1 | s3_u109v1z1 => kernel_rfl
                            case s4_u109v1z1 => exact fun _ _ _ h => h
                            case s5_u109v1z1 => exact Or.inl ⟨rfl, by intro w hSw; (try dsimp only at hSw); go_simp; try with_reducible rfl⟩
                            case s6_u109v1z1 => assumption
                            try simp only [Act.put, List.setIfInBounds_toArray, List.set_cons_zero, List.set_cons_succ]
                            with_reducible refine takeI2 (i := 23) (v := ?sv_u110v1z1) (oi := ?s0_u110v1z1) (by simp only [List.getElem?_toArray, List.getElem?_cons_succ, List.getElem?_cons_zero]; exact rfl) ?s1_u110v1z1 ?s2_u110v1z1 ?s3_u110v1z1 ?s4_u110v1z1 ?s5_u110v1z1 ?s6_u110v1z1 ?s7_u110v1z1
                            case s1_u110v1z1 | s2_u110v1z1 | s3_u110v1z1 => kernel_rfl
                            case s4_u110v1z1 => exact fun _ _ _ h => h
                            case s5_u110v1z1 => exact Or.inl ⟨rfl, by intro w hSw; (try dsimp only at hSw); go_simp; try with_reducible rfl⟩
                            case s6_u110v1z1 => assumption
                            try simp only [Act.put, List.setIfInBounds_toArray, List.set_cons_zero, List.set_cons_succ]
                            with_reducible refine takeI2 (i := 24) (v := ?sv_u111v1z1) (oi := ?s0_u111v1z1) (by simp only [List.getElem?_toArray, List.getElem?_cons_succ, List.getElem?_cons_zero]; exact rfl) ?s1_u111v1z1 ?s2_u111v1z1 ?s3_u111v1z1 ?s4_u111v1z1 ?s5_u111v1z1 ?s6_u111v1z1 ?s7_u111v1z1
                            case s1_u111v1z1 | s2_u111v1z1 | s3_u111v1z1 => kernel_rfl
                            case s4_u111v1z1 => exact fun _ _ _ h => h
                            case s5_u111v1z1 => exact Or.inl ⟨rfl, by intro w hSw; (try dsimp only at hSw); go_simp; try with_reducible rfl⟩
                            case s6_u111v1z1 => assumption
                            try simp only [Act.put, List.setIfInBounds_toArray, List.set_cons_zero, List.set_cons_succ]
                            with_reducible refine takeI2 (i := 25) (v := ?sv_u112v1z1) (oi := ?s0_u112v1z1) (by simp only [List.getElem?_toArray, List.getElem?_cons_succ, List.getElem?_cons_zero]; exact rfl) ?s1_u112v1z1 ?s2_u112v1z1 ?s3_u112v1z1 ?s4_u112v1z1 ?s5_u112v1z1 ?s6_u112v1z1 ?s7_u112v1z1
                            case s1_u112v1z1 | s2_u112v1z1 | s3_u112v1z1 => kernel_rfl
                            case s4_u112v1z1 => exact fun _ _ _ h => h
                            case s5_u112v1z1 => exact Or.inl ⟨rfl, by intro w hSw; (try dsimp only at hSw); go_simp; try with_reducible rfl⟩
                            case s6_u112v1z1 => assumption
                            try simp only [Act.put, List.setIfInBounds_toArray, List.set_cons_zero, List.set_cons_succ]
                            with_reducible refine takeI2 (i := 27) (v := ?sv_u113v1z1) (oi := ?s0_u113v1z1) (by simp only [List.getElem?_toArray, List.getElem?_cons_succ, List.getElem?_cons_zero]; exact rfl) ?s1_u113v1z1 ?s2_u113v1z1 ?s3_u113v1z1 ?s4_u113v1z1 ?s5_u113v1z1 ?s6_u113v1z1 ?s7_u113v1z1
                            case s1_u113v1z1 | s2_u113v1z1 | s3_u113v1z1 => kernel_rfl
                            case s4_u113v1z1 => exact fun _ _ _ h => h
                            case s5_u113v1z1 => exact Or.inl ⟨rfl, by intro w hSw; (try dsimp only at hSw); go_simp; try with_reducible rfl⟩
                            case s6_u113v1z1 => assumption
                            try simp only [Act.put, List.setIfInBounds_toArray, List.set_cons_zero, List.set_cons_succ]
                            with_reducible refine takeI2 (i := 28) (v := ?sv_u114v1z1) (oi := ?s0_u114v1z1) (by simp only [List.getElem?_toArray, List.getElem?_cons_succ, List.getElem?_cons_zero]; exact rfl) ?s1_u114v1z1 ?s2_u114v1z1 ?s3_u114v1z1 ?s4_u114v1z1 ?s5_u114v1z1 ?s6_u114v1z1 ?s7_u114v1z1
                            case s1_u114v1z1 | s2_u114v1z1 | s3_u114v1z1 => kernel_rfl
                            case s4_u114v1z1 => exact fun _ _ _ h => h
                            case s5_u114v1z1 => exact Or.inl ⟨rfl, by intro w hSw; (try dsimp only at hSw); go_simp; try with_reducible rfl⟩
                            case s6_u114v1z1 => assumption
                            try simp only [Act.put, List.setIfInBounds_toArray, List.set_cons_zero, List.set_cons_succ]
                            with_reducible refine wpAnyH_ready (rs := [26]) ?s1_u115v1z1 one_ne ?s2_u115v1z1
                            case s1_u115v1z1 => kernel_rfl
                            with_reducible refine AllReadyH.cons (o := ?s0_u115v1z1) (by simp only [List.getElem?_toArray, List.getElem?_cons_succ, List.getElem?_cons_zero]; exact rfl) (fun K hK => ?s3_u115v1z1) AllReadyH.nil
                            go_simp
                            refine (HNW.out ps _ _ _ _ (HKK.out.hR.below hD) (HKK.out.hP.below hD)).mono ?_
                            rw [HSN2.out.2]
                            rintro e w14 ⟨rfl, hb⟩
                            replace q0 := cell_on hb q0
                            replace q1 := cell_on hb q1
                            replace q2 := cell_on hb q2
                            replace q3 := cell_on hb q3
                            replace hD := bvia hD hb
                            replace hq2 := hq2.below hb
                            replace HCL := Lib.hid (fun k hk => cell_on hb (HCL.out k hk))
                            clear hb
                            go_wp2_with fail
                            with_reducible refine hK.out _ _ ?s1_u116v1z1 (fun hHeld => ?s2_u116v1z1)
                            case s1_u116v1z1 => exact ⟨q0, q1, q2, q3⟩
                            clear hK K
                            try simp only [Act.put, List.setIfInBounds_toArray, List.set_cons_zero, List.set_cons_succ]
                            with_reducible refine takeI2 (i := 29) (v := ?sv_u117v1z1) (oi := ?s0_u117v1z1) (by simp only [List.getElem?_toArray, List.getElem?_cons_succ, List.getElem?_cons_zero]; exact rfl) ?s1_u117v1z1 ?s2_u117v1z1 ?s3_u117v1z1 ?s4_u117v1z1 ?s5_u117v1z1 ?s6_u117v1z1 ?s7_u117v1z1
                            case s1_u117v1z1 | s2_u117v1z1 | s3_u117v1z1 => kernel_rfl
                            case s4_u117v1z1 => exact fun _ _ _ h => h
                            case s5_u117v1z1 => exact Or.inl ⟨rfl, by intro w hSw; (try dsimp only at hSw); go_simp; try with_reducible rfl⟩
                            case s6_u117v1z1 => assumption
                            try simp only [Act.put, List.setIfInBounds_toArray, List.set_cons_zero, List.set_cons_succ]
                            with_reducible refine takeI2 (i := 30) (v := ?sv_u118v1z1) (oi := ?s0_u118v1z1) (by simp only [List.getElem?_toArray, List.getElem?_cons_succ, List.getElem?_cons_zero]; exact rfl) ?s1_u118v1z1 ?s2_u118v1z1 ?s3_u118v1z1 ?s4_u118v1z1 ?s5_u118v1z1 ?s6_u118v1z1 ?s7_u118v1z1
                            case s1_u118v1z1 | s2_u118v1z1 | s3_u118v1z1 => kernel_rfl
                            case s4_u118v1z1 => exact fun _ _ _ h => h
                            case s5_u118v1z1 => exact Or.inl ⟨rfl, by intro w hSw; (try dsimp only at hSw); go_simp; try with_reducible rfl⟩
                            case s6_u118v1z1 => assumption
                            try simp only [Act.put, List.setIfInBounds_toArray, List.set_cons_zero, List.set_cons_succ]
                            with_reducible refine takeI2 (i := 31) (v := ?sv_u119v1z1) (oi := ?s0_u119v1z1) (by simp only [List.getElem?_toArray, List.getElem?_cons_succ, List.getElem?_cons_zero]; exact rfl) ?s1_u119v1z1 ?s2_u119v1z1 ?s3_u119v1z1 ?s4_u119v1z1 ?s5_u119v1z1 ?s6_u119v1z1 ?s7_u119v1z1
                            case s1_u119v1z1 | s2_u119v1z1 | s3_u119v1z1 => kernel_rfl
                            case s4_u119v1z1 => exact fun _ _ _ h => h
                            case s5_u119v1z1 => exact Or.inl ⟨rfl, by intro w hSw; (try dsimp only at hSw); go_simp; try with_reducible rfl⟩
                            case s6_u119v1z1 => assumption
                            try simp only [Act.put, List.setIfInBounds_toArray, List.set_cons_zero, List.set_cons_succ]
                            with_reducible refine takeI2 (i := 32) (v := ?sv_u120v1z1) (oi := ?s0_u120v1z1) (by simp only [List.getElem?_toArray, List.getElem?_cons_succ, List.getElem?_cons_zero]; exact rfl) ?s1_u120v1z1 ?s2_u120v1z1 ?s3_u120v1z1 ?s4_u120v1z1 ?s5_u120v1z1 ?s6_u120v1z1 ?s7_u120v1z1
                            case s1_u120v1z1 | s2_u120v1z1 | s3_u120v1z1 => kernel_rfl
                            case s4_u120v1z1 => exact fun _ _ _ h => h
                            case s5_u120v1z1 => exact Or.inl ⟨rfl, by intro w hSw; (try dsimp only at hSw); go_simp; try with_reducible rfl⟩
                            case s6_u120v1z1 => assumption
                            try simp only [Act.put, List.setIfInBounds_toArray, List.set_cons_zero, List.set_cons_succ]
                            with_reducible refine takeI2 (i := 33) (v := ?sv_u121v1z1) (oi := ?s0_u121v1z1) (by simp only [List.getElem?_toArray, List.getElem?_cons_succ, List.getElem?_cons_zero]; exact rfl) ?s1_u121v1z1 ?s2_u121v1z1 ?s3_u121v1z1 ?s4_u121v1z1 ?s5_u121v1z1 ?s6_u121v1z1 ?s7_u121v1z1
                            case s1_u121v1z1 | s2_u121v1z1 | s3_u121v1z1 => kernel_rfl
                            case s4_u121v1z1 => exact fun _ _ _ h => h
                            case s5_u121v1z1 => exact Or.inl ⟨rfl, by intro w hSw; (try dsimp only at hSw); go_simp; try with_reducible rfl⟩
                            case s6_u121v1z1 => assumption
                            try simp only [Act.put, List.setIfInBounds_toArray, List.set_cons_zero, List.set_cons_succ]
                            with_reducible refine takeI2 (i := 34) (v := ?sv_u122v1z1) (oi := ?s0_u122v1z1) (by simp only [List.getElem?_toArray, List.getElem?_cons_succ, List.getElem?_cons_zero]; exact rfl) ?s1_u122v1z1 ?s2_u122v1z1 ?s3_u122v1z1 ?s4_u122v1z1 ?s5_u122v1z1 ?s6_u122v1z1 ?s7_u122v1z1
                            case s1_u122v1z1 | s2_u122v1z1 | s3_u122v1z1 => kernel_rfl
                            case s4_u122v1z1 => exact fun _ _ _ h => h
                            case s5_u122v1z1 => exact Or.inl ⟨rfl, by intro w hSw; (try dsimp only at hSw); go_simp; try with_reducible rfl⟩
                            case s6_u122v1z1 => assumption
                            try simp only [Act.put, List.setIfInBounds_toArray, List.set_cons_zero, List.set_cons_succ]
                            with_reducible refine takeI2 (i := 36) (v := ?sv_u123v1z1) (oi := ?s0_u123v1z1) (by simp only [List.getElem?_toArray, List.getElem?_cons_succ, List.getElem?_cons_zero]; exact rfl) ?s1_u123v1z1 ?s2_u123v1z1 ?s3_u123v1z1 ?s4_u123v1z1 ?s5_u123v1z1 ?s6_u123v1z1 ?s7_u123v1z1
                            case s1_u123v1z1 | s2_u123v1z1 | s3_u123v1z1 => kernel_rfl
                            case s4_u123v1z1 => exact fun _ _ _ h => h
                            case s5_u123v1z1 => exact Or.inl ⟨rfl, by intro w hSw; (try dsimp only at hSw); go_simp; try with_reducible rfl⟩
                            case s6_u123v1z1 => assumption
                            try simp only [Act.put, List.setIfInBounds_toArray, List.set_cons_zero, List.set_cons_succ]
                            with_reducible refine takeI2 (i := 37) (v := ?sv_u124v1z1) (oi := ?s0_u124v1z1) (by simp only [List.getElem?_toArray, List.getElem?_cons_succ, List.getElem?_cons_zero]; exact rfl) ?s1_u124v1z1 ?s2_u124v1z1 ?s3_u124v1z1 ?s4_u124v1z1 ?s5_u124v1z1 ?s6_u124v1z1 ?s7_u124v1z1
                            case s1_u124v1z1 | s2_u124v1z1 | s3_u124v1z1 => kernel_rfl
                            case s4_u124v1z1 => exact fun _ _ _ h => h
                            case s5_u124v1z1 => exact Or.inl ⟨rfl, by intro w hSw; (try dsimp only at hSw); go_simp; try with_reducible rfl⟩
                            case s6_u124v1z1 => assumption
                            try simp only [Act.put, List.setIfInBounds_toArray, List.set_cons_zero, List.set_cons_succ]
                            with_reducible refine wpAnyH_ready (rs := [35]) ?s1_u125v1z1 one_ne ?s2_u125v1z1
                            case s1_u125v1z1 => kernel_rfl
                            with_reducible refine AllReadyH.cons (o := ?s0_u125v1z1) (by simp only [List.getElem?_toArray, List.getElem?_cons_succ, List.getElem?_cons_zero]; exact rfl) (fun K hK => ?s3_u125v1z1) AllReadyH.nil
                            go_simp
                            refine (HSW.out (ps.set j (-1)) _ _ _ _ (HKK.out.hR.below hD) (HKK.out.hP.below hD) hq2).mono ?_
                            rw [HSN2.out.1]
                            rintro e w15 ⟨rfl, hb⟩
                            replace q0 := cell_on hb q0
                            replace q1 := cell_on hb q1
                            replace q2 := cell_on hb q2
                            replace q3 := cell_on hb q3
                            replace hD := bvia hD hb
                            replace hq2 := hq2.below hb
                            replace HCL := Lib.hid (fun k hk => cell_on hb (HCL.out k hk))
                            clear hb
                            go_wp2_with fail
                            with_reducible refine hK.out _ _ ?s1_u126v1z1 (fun hHeld => ?s2_u126v1z1)
                            case s1_u126v1z1 => exact ⟨q0, q1, q2, q3⟩
                            clear hK K
                            try simp only [Act.put, List.setIfInBounds_toArray, List.set_cons_zero, List.set_cons_succ]
                            with_reducible refine takeI2 (i := 38) (v := ?sv_u127v1z1) (oi := ?s0_u127v1z1) (by simp only [List.getElem?_toArray, List.getElem?_cons_succ, List.getElem?_cons_zero]; exact rfl) ?s1_u127v1z1 ?s2_u127v1z1 ?s3_u127v1z1 ?s4_u127v1z1 ?s5_u127v1z1 ?s6_u127v1z1 ?s7_u127v1z1
                            case s1_u127v1z1 | s2_u127v1z1 | s3_u127v1z1 => kernel_rfl
                            case s4_u127v1z1 => exact fun _ _ _ h => h
                            case s5_u127v1z1 => exact Or.inl ⟨rfl, by intro w hSw; (try dsimp only at hSw); go_simp; try with_reducible rfl⟩
                            case s6_u127v1z1 => assumption
                            try simp only [Act.put, List.setIfInBounds_toArray, List.set_cons_zero, List.set_cons_succ]
                            with_reducible refine takeI2 (i := 39) (v := ?sv_u128v1z1) (oi := ?s0_u128v1z1) (by simp only [List.getElem?_toArray, List.getElem?_cons_succ, List.getElem?_cons_zero]; exact rfl) ?s1_u128v1z1 ?s2_u128v1z1 ?s3_u128v1z1 ?s4_u128v1z1 ?s5_u128v1z1 ?s6_u128v1z1 ?s7_u128v1z1
                            case s1_u128v1z1 | s2_u128v1z1 | s3_u128v1z1 => kernel_rfl
                            case s4_u128v1z1 => exact fun _ _ _ h => h
                            case s5_u128v1z1 => exact Or.inl ⟨rfl, by intro w hSw; (try dsimp only at hSw); go_simp; try with_reducible rfl⟩
                            case s6_u128v1z1 => assumption
                            try simp only [Act.put, List.setIfInBounds_toArray, List.set_cons_zero, List.set_cons_succ]
                            with_reducible refine wpAnyH_done ?s1_u129v1z1 ?s2_u129v1z1 _
                            case s1_u129v1z1 => kernel_rfl
                            clear q0 q1 q2 q3 HSN2 hq2 hwx
                            have hE0 := Below.refl w15.heap.size w15
                            go_wp2_with (fail)
                            go_loopw [17] (fun i wr => ∃ t : Nat, t ≤ q ∧ i = .int .i64 t ∧ Below w15.heap.size w15 wr) (fun i _ => q - (intOf i).toNat)
                            case atStart => exact ⟨0, Nat.zero_le _, rfl, hE0⟩
                            case round =>
                             focus
                              clear hE0
                              obtain ⟨t2, ht2, rfl, hE⟩ := hrel
                              obtain ⟨wo6, hwo6⟩ : ∃ wo6 : World, wo6 = wr := ⟨_, rfl⟩
                              subst hwo6
                              by_cases htq : t2 < q
                              · have qt : (t2 : Int) < (q : Int) := by omega
                                have p0 := cell_on (bvia hD hE).drew (HKK.out.cH t2 htq)
                                have p1 := cell_on hE.drew (HCL.out t2 htq)
                                have hll := HLE.out t2
                                generalize f t2 = x2 at p0 hll
                                generalize f2 t2 = y2 at p1 hll
                                have hll2 : decide (x2 < y2) = false := decide_eq_false (by omega)
                                clear hll
                                go_wp2_with (fail)
                                with_reducible refine region_beg (n := 9) (S := (fun w => w.cell? ⟨bh, oi + t2, none⟩ = some (.int .i64 x2) ∧ w.cell? ⟨bL, oL + t2, none⟩ = some (.int .i64 y2))) ?b1_u75v1z1 ?b2_u75v1z1 ?b3_u75v1z1 (fun hHeld => ?b4_u75v1z1)
                                case b1_u75v1z1 => kernel_rfl
                                case b2_u75v1z1 => kernel_rfl
                                case b3_u75v1z1 => exact ⟨p0, p1⟩
                                with_reducible refine takeI2 (i := 0) (v := ?sv_u76v1z1) (oi := ?s0_u76v1z1) (by simp only [List.getElem?_toArray, List.getElem?_cons_succ, List.getElem?_cons_zero]; exact rfl) ?s1_u76v1z1 ?s2_u76v1z1 ?s3_u76v1z1 ?s4_u76v1z1 ?s5_u76v1z1 ?s6_u76v1z1 ?s7_u76v1z1
                                case s1_u76v1z1 | s2_u76v1z1 | s3_u76v1z1 => kernel_rfl
                                case s4_u76v1z1 => exact fun _ _ _ h => h
                                case s5_u76v1z1 => exact Or.inl ⟨rfl, by intro w hSw; (try dsimp only at hSw); go_simp; try with_reducible rfl⟩
                                case s6_u76v1z1 => assumption
                                try simp only [Act.put, List.setIfInBounds_toArray, List.set_cons_zero, List.set_cons_succ]
                                with_reducible refine takeI2 (i := 1) (v := ?sv_u77v1z1) (oi := ?s0_u77v1z1) (by simp only [List.getElem?_toArray, List.getElem?_cons_succ, List.getElem?_cons_zero]; exact rfl) ?s1_u77v1z1 ?s2_u77v1z1 ?s3_u77v1z1 ?s4_u77v1z1 ?s5_u77v1z1 ?s6_u77v1z1 ?s7_u77v1z1
                                case s1_u77v1z1 | s2_u77v1z1 | s3_u77v1z1 => kernel_rfl
                                case s4_u77v1z1 => exact fun _ _ _ h => h
                                case s5_u77v1z1 => exact Or.inl ⟨rfl, by intro w hSw; (try dsimp only at hSw); go_simp; try with_reducible rfl⟩
                                case s6_u77v1z1 => assumption
                                try simp only [Act.put, List.setIfInBounds_toArray, List.set_cons_zero, List.set_cons_succ]
                                with_reducible refine takeI2 (i := 2) (v := ?sv_u78v1z1) (oi := ?s0_u78v1z1) (by simp only [List.getElem?_toArray, List.getElem?_cons_succ, List.getElem?_cons_zero]; exact rfl) ?s1_u78v1z1 ?s2_u78v1z1 ?s3_u78v1z1 ?s4_u78v1z1 ?s5_u78v1z1 ?s6_u78v1z1 ?s7_u78v1z1
                                case s1_u78v1z1 | s2_u78v1z1 | s3_u78v1z1 => kernel_rfl
                                case s4_u78v1z1 => exact fun _ _ _ h => h
                                case s5_u78v1z1 => exact Or.inl ⟨rfl, by intro w hSw; (try dsimp only at hSw); go_simp; try with_reducible rfl⟩
                                case s6_u78v1z1 => assumption
                                try simp only [Act.put, List.setIfInBounds_toArray, List.set_cons_zero, List.set_cons_succ]
                                with_reducible refine takeI2 (i := 3) (v := ?sv_u79v1z1) (oi := ?s0_u79v1z1) (by simp only [List.getElem?_toArray, List.getElem?_cons_succ, List.getElem?_cons_zero]; exact rfl) ?s1_u79v1z1 ?s2_u79v1z1 ?s3_u79v1z1 ?s4_u79v1z1 ?s5_u79v1z1 ?s6_u79v1z1 ?s7_u79v1z1
                                case s1_u79v1z1 | s2_u79v1z1 | s3_u79v1z1 => kernel_rfl
                                case s4_u79v1z1 => exact fun _ _ _ h => h
                                case s5_u79v1z1 => exact Or.inl ⟨rfl, by intro w hSw; (try dsimp only at hSw); go_simp; try with_reducible rfl⟩
                                case s6_u79v1z1 => assumption
                                try simp only [Act.put, List.setIfInBounds_toArray, List.set_cons_zero, List.set_cons_succ]
                                with_reducible refine takeI2 (i := 4) (v := ?sv_u80v1z1) (oi := ?s0_u80v1z1) (by simp only [List.getElem?_toArray, List.getElem?_cons_succ, List.getElem?_cons_zero]; exact rfl) ?s1_u80v1z1 ?s2_u80v1z1 ?s3_u80v1z1 ?s4_u80v1z1 ?s5_u80v1z1 ?s6_u80v1z1 ?s7_u80v1z1
                                case s1_u80v1z1 | s2_u80v1z1 | s3_u80v1z1 => kernel_rfl
                                case s4_u80v1z1 => exact fun _ _ _ h => h
                                case s5_u80v1z1 => exact Or.inl ⟨rfl, by intro w hSw; (try dsimp only at hSw); go_simp; try with_reducible rfl⟩
                                case s6_u80v1z1 => assumption
                                try simp only [Act.put, List.setIfInBounds_toArray, List.set_cons_zero, List.set_cons_succ]
                                with_reducible refine takeI2 (i := 5) (v := ?sv_u81v1z1) (oi := ?s0_u81v1z1) (by simp only [List.getElem?_toArray, List.getElem?_cons_succ, List.getElem?_cons_zero]; exact rfl) ?s1_u81v1z1 ?s2_u81v1z1 ?s3_u81v1z1 ?s4_u81v1z1 ?s5_u81v1z1 ?s6_u81v1z1 ?s7_u81v1z1
                                case s1_u81v1z1 | s2_u81v1z1 | s3_u81v1z1 => kernel_rfl
                                case s4_u81v1z1 => exact fun _ _ _ h => h
                                case s5_u81v1z1 => exact Or.inl ⟨rfl, by intro w hSw; (try dsimp only at hSw); go_simp; try with_reducible rfl⟩
                                case s6_u81v1z1 => assumption
                                try simp only [Act.put, List.setIfInBounds_toArray, List.set_cons_zero, List.set_cons_succ]
                                with_reducible refine takeI2 (i := 6) (v := ?sv_u82v1z1) (oi := ?s0_u82v1z1) (by simp only [List.getElem?_toArray, List.getElem?_cons_succ, List.getElem?_cons_zero]; exact rfl) ?s1_u82v1z1 ?s2_u82v1z1 ?s3_u82v1z1 ?s4_u82v1z1 ?s5_u82v1z1 ?s6_u82v1z1 ?s7_u82v1z1
                                case s1_u82v1z1 | s2_u82v1z1 | s3_u82v1z1 => kernel_rfl
                                case s4_u82v1z1 => exact fun _ _ _ h => h
                                case s5_u82v1z1 => exact Or.inl ⟨rfl, by intro w hSw; (try dsimp only at hSw); go_simp; try with_reducible rfl⟩
                                case s6_u82v1z1 => assumption
                                try simp only [Act.put, List.setIfInBounds_toArray, List.set_cons_zero, List.set_cons_succ]
                                with_reducible refine takeI2 (i := 7) (v := ?sv_u83v1z1) (oi := ?s0_u83v1z1) (by simp only [List.getElem?_toArray, List.getElem?_cons_succ, List.getElem?_cons_zero]; exact rfl) ?s1_u83v1z1 ?s2_u83v1z1 ?s3_u83v1z1 ?s4_u83v1z1 ?s5_u83v1z1 ?s6_u83v1z1 ?s7_u83v1z1
                                case s1_u83v1z1 | s2_u83v1z1 | s3_u83v1z1 => kernel_rfl
                                case s4_u83v1z1 => exact fun _ _ _ h => h
                                case s5_u83v1z1 => exact Or.inl ⟨rfl, by intro w hSw; (try dsimp only at hSw); go_simp; try with_reducible rfl⟩
                                case s6_u83v1z1 => assumption
                                try simp only [Act.put, List.setIfInBounds_toArray, List.set_cons_zero, List.set_cons_succ]
                                with_reducible refine takeI2 (i := 8) (v := ?sv_u84v1z1) (oi := ?s0_u84v1z1) (by simp only [List.getElem?_toArray, List.getElem?_cons_succ, List.getElem?_cons_zero]; exact rfl) ?s1_u84v1z1 ?s2_u84v1z1 ?s3_u84v1z1 ?s4_u84v1z1 ?s5_u84v1z1 ?s6_u84v1z1 ?s7_u84v1z1
                                case s1_u84v1z1 | s2_u84v1z1 | s3_u84v1z1 => kernel_rfl
                                case s4_u84v1z1 => exact fun _ _ _ h => h
                                case s5_u84v1z1 => exact Or.inl ⟨rfl, by intro w hSw; (try dsimp only at hSw); go_simp; try with_reducible rfl⟩
                                case s6_u84v1z1 => assumption
                                try simp only [Act.put, List.setIfInBounds_toArray, List.set_cons_zero, List.set_cons_succ]
                                with_reducible refine wpAnyH_done ?s1_u85v1z1 ?s2_u85v1z1 _
                                case s1_u85v1z1 => kernel_rfl
                                go_wp2_with (fail)
                                exact ⟨⟨t2 + 1, by omega, by go_num, hE.drew⟩, by simp [intOf]; omega⟩
                              · go_wp2_with (fail)
                                exact ⟨⟨j + 1, by omega, by go_num, bvia hD hE⟩, by simp [intOf]; omega⟩
                          · obtain rfl : d = 0 := by omega
                            have hsn := HSN.out
                            rw [decide_eq_false hd1, decide_eq_true (rfl : (0 : Int) = 0)] at hsn
                            have HSN2 := Lib.hid hsn
                            clear hsn HSN hdn
                            go_wp2_with (fail)
                            obtain ⟨q0, q1⟩ := HKK.out.hX.below hD.drew
                            replace hD := hD.drew
                            replace hq2 := hq2.below (dr1 w13).below
                            replace HCL := Lib.hid (fun k hk => cell_on (dr1 w13).below (HCL.out k hk))
                            with_reducible refine region_beg (n := 40) (S := (fun w => w.cell? ⟨gx, 0, none⟩ = some (.int .i64 (q : Int)) ∧ w.cell? ⟨gx, 1, none⟩ = some (.slice al zs.length cl) ∧ w.cell? ⟨bh, oi + j, none⟩ = some (.int .i64 x) ∧ w.cell? ⟨bL, oL + j, none⟩ = some (.int .i64 y))) ?b1_u86v2z1 ?b2_u86v2z1 ?b3_u86v2z1 (fun hHeld => ?b4_u86v2z1)
                            case b1_u86v2z1 => kernel_rfl
                            case b2_u86v2z1 => kernel_rfl
                            case b3_u86v2z1 => exact ⟨q0, q1, q2, q3⟩
                            with_reducible refine takeI2 (i := 0) (v := ?sv_u87v2z1) (oi := ?s0_u87v2z1) (by simp only [List.getElem?_toArray, List.getElem?_cons_succ, List.getElem?_cons_zero]; exact rfl) ?s1_u87v2z1 ?s2_u87v2z1 ?s3_u87v2z1 ?s4_u87v2z1 ?s5_u87v2z1 ?s6_u87v2z1 ?s7_u87v2z1
                            case s1_u87v2z1 | s2_u87v2z1 | s3_u87v2z1 => kernel_rfl
                            case s4_u87v2z1 => exact fun _ _ _ h => h
                            case s5_u87v2z1 => exact Or.inl ⟨rfl, by intro w hSw; (try dsimp only at hSw); go_simp; try with_reducible rfl⟩
                            case s6_u87v2z1 => assumption
                            try simp only [Act.put, List.setIfInBounds_toArray, List.set_cons_zero, List.set_cons_succ]
                            with_reducible refine takeI2 (i := 1) (v := ?sv_u88v2z1) (oi := ?s0_u88v2z1) (by simp only [List.getElem?_toArray, List.getElem?_cons_succ, List.getElem?_cons_zero]; exact rfl) ?s1_u88v2z1 ?s2_u88v2z1 ?s3_u88v2z1 ?s4_u88v2z1 ?s5_u88v2z1 ?s6_u88v2z1 ?s7_u88v2z1
                            case s1_u88v2z1 | s2_u88v2z1 | s3_u88v2z1 => kernel_rfl
                            case s4_u88v2z1 => exact fun _ _ _ h => h
                            case s5_u88v2z1 => exact Or.inl ⟨rfl, by intro w hSw; (try dsimp only at hSw); go_simp; try with_reducible rfl⟩
                            case s6_u88v2z1 => assumption
                            try simp only [Act.put, List.setIfInBounds_toArray, List.set_cons_zero, List.set_cons_succ]
                            with_reducible refine takeI2 (i := 2) (v := ?sv_u89v2z1) (oi := ?s0_u89v2z1) (by simp only [List.getElem?_toArray, List.getElem?_cons_succ, List.getElem?_cons_zero]; exact rfl) ?s1_u89v2z1 ?s2_u89v2z1 ?s3_u89v2z1 ?s4_u89v2z1 ?s5_u89v2z1 ?s6_u89v2z1 ?s7_u89v2z1
                            case s1_u89v2z1 | s2_u89v2z1 | s3_u89v2z1 => kernel_rfl
                            case s4_u89v2z1 => exact fun _ _ _ h => h
                            case s5_u89v2z1 => exact Or.inl ⟨rfl, by intro w hSw; (try dsimp only at hSw); go_simp; try with_reducible rfl⟩
                            case s6_u89v2z1 => assumption
                            try simp only [Act.put, List.setIfInBounds_toArray, List.set_cons_zero, List.set_cons_succ]
                            with_reducible refine takeI2 (i := 3) (v := ?sv_u90v2z1) (oi := ?s0_u90v2z1) (by simp only [List.getElem?_toArray, List.getElem?_cons_succ, List.getElem?_cons_zero]; exact rfl) ?s1_u90v2z1 ?s2_u90v2z1 ?s3_u90v2z1 ?s4_u90v2z1 ?s5_u90v2z1 ?s6_u90v2z1 ?s7_u90v2z1
                            case s1_u90v2z1 | s2_u90v2z1 | s3_u90v2z1 => kernel_rfl
                            case s4_u90v2z1 => exact fun _ _ _ h => h
                            case s5_u90v2z1 => exact Or.inl ⟨rfl, by intro w hSw; (try dsimp only at hSw); go_simp; try with_reducible rfl⟩
                            case s6_u90v2z1 => assumption
                            try simp only [Act.put, List.setIfInBounds_toArray, List.set_cons_zero, List.set_cons_succ]
                            with_reducible refine takeI2 (i := 4) (v := ?sv_u91v2z1) (oi := ?s0_u91v2z1) (by simp only [List.getElem?_toArray, List.getElem?_cons_succ, List.getElem?_cons_zero]; exact rfl) ?s1_u91v2z1 ?s2_u91v2z1 ?s3_u91v2z1 ?s4_u91v2z1 ?s5_u91v2z1 ?s6_u91v2z1 ?s7_u91v2z1
                            case s1_u91v2z1 | s2_u91v2z1 | s3_u91v2z1 => kernel_rfl
                            case s4_u91v2z1 => exact fun _ _ _ h => h
                            case s5_u91v2z1 => exact Or.inl ⟨rfl, by intro w hSw; (try dsimp only at hSw); go_simp; try with_reducible rfl⟩
                            case s6_u91v2z1 => assumption
                            try simp only [Act.put, List.setIfInBounds_toArray, List.set_cons_zero, List.set_cons_succ]
                            with_reducible refine takeI2 (i := 5) (v := ?sv_u92v2z1) (oi := ?s0_u92v2z1) (by simp only [List.getElem?_toArray, List.getElem?_cons_succ, List.getElem?_cons_zero]; exact rfl) ?s1_u92v2z1 ?s2_u92v2z1 ?s3_u92v2z1 ?s4_u92v2z1 ?s5_u92v2z1 ?s6_u92v2z1 ?s7_u92v2z1
                            case s1_u92v2z1 | s2_u92v2z1 | s3_u92v2z1 => kernel_rfl
                            case s4_u92v2z1 => exact fun _ _ _ h => h
                            case s5_u92v2z1 => exact Or.inl ⟨rfl, by intro w hSw; (try dsimp only at hSw); go_simp; try with_reducible rfl⟩
                            case s6_u92v2z1 => assumption
                            try simp only [Act.put, List.setIfInBounds_toArray, List.set_cons_zero, List.set_cons_succ]
                            with_reducible refine takeI2 (i := 6) (v := ?sv_u93v2z1) (oi := ?s0_u93v2z1) (by simp only [List.getElem?_toArray, List.getElem?_cons_succ, List.getElem?_cons_zero]; exact rfl) ?s1_u93v2z1 ?s2_u93v2z1 ?s3_u93v2z1 ?s4_u93v2z1 ?s5_u93v2z1 ?s6_u93v2z1 ?s7_u93v2z1
                            case s1_u93v2z1 | s2_u93v2z1 | s3_u93v2z1 => kernel_rfl
                            case s4_u93v2z1 => exact fun _ _ _ h => h
                            case s5_u93v2z1 => exact Or.inl ⟨rfl, by intro w hSw; (try dsimp only at hSw); go_simp; try with_reducible rfl⟩
                            case s6_u93v2z1 => assumption
                            try simp only [Act.put, List.setIfInBounds_toArray, List.set_cons_zero, List.set_cons_succ]
                            with_reducible refine takeI2 (i := 7) (v := ?sv_u94v2z1) (oi := ?s0_u94v2z1) (by simp only [List.getElem?_toArray, List.getElem?_cons_succ, List.getElem?_cons_zero]; exact rfl) ?s1_u94v2z1 ?s2_u94v2z1 ?s3_u94v2z1 ?s4_u94v2z1 ?s5_u94v2z1 ?s6_u94v2z1 ?s7_u94v2z1
                            case s1_u94v2z1 | s2_u94v2z1 | s3_u94v2z1 => kernel_rfl
                            case s4_u94v2z1 => exact fun _ _ _ h => h
                            case s5_u94v2z1 => exact Or.inl ⟨rfl, by intro w hSw; (try dsimp only at hSw); go_simp; try with_reducible rfl⟩
                            case s6_u94v2z1 => assumption
                            try simp only [Act.put, List.setIfInBounds_toArray, List.set_cons_zero, List.set_cons_succ]
                            with_reducible refine takeI2 (i := 8) (v := ?sv_u95v2z1) (oi := ?s0_u95v2z1) (by simp only [List.getElem?_toArray, List.getElem?_cons_succ, List.getElem?_cons_zero]; exact rfl) ?s1_u95v2z1 ?s2_u95v2z1 ?s3_u95v2z1 ?s4_u95v2z1 ?s5_u95v2z1 ?s6_u95v2z1 ?s7_u95v2z1
                            case s1_u95v2z1 | s2_u95v2z1 | s3_u95v2z1 => kernel_rfl
                            case s4_u95v2z1 => exact fun _ _ _ h => h
                            case s5_u95v2z1 => exact Or.inl ⟨rfl, by intro w hSw; (try dsimp only at hSw); go_simp; try with_reducible rfl⟩
                            case s6_u95v2z1 => assumption
                            try simp only [Act.put, List.setIfInBounds_toArray, List.set_cons_zero, List.set_cons_succ]
                            with_reducible refine takeI2 (i := 9) (v := ?sv_u96v2z1) (oi := ?s0_u96v2z1) (by simp only [List.getElem?_toArray, List.getElem?_cons_succ, List.getElem?_cons_zero]; exact rfl) ?s1_u96v2z1 ?s2_u96v2z1 ?s3_u96v2z1 ?s4_u96v2z1 ?s5_u96v2z1 ?s6_u96v2z1 ?s7_u96v2z1
                            case s1_u96v2z1 | s2_u96v2z1 | s3_u96v2z1 => kernel_rfl
                            case s4_u96v2z1 => exact fun _ _ _ h => h
                            case s5_u96v2z1 => exact Or.inl ⟨rfl, by intro w hSw; (try dsimp only at hSw); go_simp; try with_reducible rfl⟩
                            case s6_u96v2z1 => assumption
                            try simp only [Act.put, List.setIfInBounds_toArray, List.set_cons_zero, List.set_cons_succ]
                            with_reducible refine takeI2 (i := 10) (v := ?sv_u97v2z1) (oi := ?s0_u97v2z1) (by simp only [List.getElem?_toArray, List.getElem?_cons_succ, List.getElem?_cons_zero]; exact rfl) ?s1_u97v2z1 ?s2_u97v2z1 ?s3_u97v2z1 ?s4_u97v2z1 ?s5_u97v2z1 ?s6_u97v2z1 ?s7_u97v2z1
                            case s1_u97v2z1 | s2_u97v2z1 | s3_u97v2z1 => kernel_rfl
                            case s4_u97v2z1 => exact fun _ _ _ h => h
                            case s5_u97v2z1 => exact Or.inl ⟨rfl, by intro w hSw; (try dsimp only at hSw); go_simp; try with_reducible rfl⟩
                            case s6_u97v2z1 => assumption
                            try simp only [Act.put, List.setIfInBounds_toArray, List.set_cons_zero, List.set_cons_succ]
                            with_reducible refine takeI2 (i := 11) (v := ?sv_u98v2z1) (oi := ?s0_u98v2z1) (by simp only [List.getElem?_toArray, List.getElem?_cons_succ, List.getElem?_cons_zero]; exact rfl) ?s1_u98v2z1 ?s2_u98v2z1 ?s3_u98v2z1 ?s4_u98v2z1 ?s5_u98v2z1 ?s6_u98v2z1 ?s7_u98v2z1
                            case s1_u98v2z1 | s2_u98v2z1 | s3_u98v2z1 => kernel_rfl
                            case s4_u98v2z1 => exact fun _ _ _ h => h
                            case s5_u98v2z1 => exact Or.inl ⟨rfl, by intro w hSw; (try dsimp only at hSw); go_simp; try with_reducible rfl⟩
                            case s6_u98v2z1 => assumption
                            try simp only [Act.put, List.setIfInBounds_toArray, List.set_cons_zero, List.set_cons_succ]
                            with_reducible refine takeI2 (i := 12) (v := ?sv_u99v2z1) (oi := ?s0_u99v2z1) (by simp only [List.getElem?_toArray, List.getElem?_cons_succ, List.getElem?_cons_zero]; exact rfl) ?s1_u99v2z1 ?s2_u99v2z1 ?s3_u99v2z1 ?s4_u99v2z1 ?s5_u99v2z1 ?s6_u99v2z1 ?s7_u99v2z1
                            case s1_u99v2z1 | s2_u99v2z1 | s3_u99v2z1 => kernel_rfl
                            case s4_u99v2z1 => exact fun _ _ _ h => h
                            case s5_u99v2z1 => exact Or.inl ⟨rfl, by intro w hSw; (try dsimp only at hSw); go_simp; try with_reducible rfl⟩
                            case s6_u99v2z1 => assumption
                            try simp only [Act.put, List.setIfInBounds_toArray, List.set_cons_zero, List.set_cons_succ]
                            with_reducible refine takeI2 (i := 13) (v := ?sv_u100v2z1) (oi := ?s0_u100v2z1) (by simp only [List.getElem?_toArray, List.getElem?_cons_succ, List.getElem?_cons_zero]; exact rfl) ?s1_u100v2z1 ?s2_u100v2z1 ?s3_u100v2z1 ?s4_u100v2z1 ?s5_u100v2z1 ?s6_u100v2z1 ?s7_u100v2z1
                            case s1_u100v2z1 | s2_u100v2z1 | s3_u100v2z1 => kernel_rfl
                            case s4_u100v2z1 => exact fun _ _ _ h => h
                            case s5_u100v2z1 => exact Or.inl ⟨rfl, by intro w hSw; (try dsimp only at hSw); go_simp; try with_reducible rfl⟩
                            case s6_u100v2z1 => assumption
                            try simp only [Act.put, List.setIfInBounds_toArray, List.set_cons_zero, List.set_cons_succ]
                            with_reducible refine takeI2 (i := 14) (v := ?sv_u101v2z1) (oi := ?s0_u101v2z1) (by simp only [List.getElem?_toArray, List.getElem?_cons_succ, List.getElem?_cons_zero]; exact rfl) ?s1_u101v2z1 ?s2_u101v2z1 ?s3_u101v2z1 ?s4_u101v2z1 ?s5_u101v2z1 ?s6_u101v2z1 ?s7_u101v2z1
                            case s1_u101v2z1 | s2_u101v2z1 | s3_u101v2z1 => kernel_rfl
                            case s4_u101v2z1 => exact fun _ _ _ h => h
                            case s5_u101v2z1 => exact Or.inl ⟨rfl, by intro w hSw; (try dsimp only at hSw); go_simp; try with_reducible rfl⟩
                            case s6_u101v2z1 => assumption
                            try simp only [Act.put, List.setIfInBounds_toArray, List.set_cons_zero, List.set_cons_succ]
                            with_reducible refine takeI2 (i := 15) (v := ?sv_u102v2z1) (oi := ?s0_u102v2z1) (by simp only [List.getElem?_toArray, List.getElem?_cons_succ, List.getElem?_cons_zero]; exact rfl) ?s1_u102v2z1 ?s2_u102v2z1 ?s3_u102v2z1 ?s4_u102v2z1 ?s5_u102v2z1 ?s6_u102v2z1 ?s7_u102v2z1
                            case s1_u102v2z1 | s2_u102v2z1 | s3_u102v2z1 => kernel_rfl
                            case s4_u102v2z1 => exact fun _ _ _ h => h
                            case s5_u102v2z1 => exact Or.inl ⟨rfl, by intro w hSw; (try dsimp only at hSw); go_simp; try with_reducible rfl⟩
                            case s6_u102v2z1 => assumption
                            try simp only [Act.put, List.setIfInBounds_toArray, List.set_cons_zero, List.set_cons_succ]
                            with_reducible refine takeI2 (i := 16) (v := ?sv_u103v2z1) (oi := ?s0_u103v2z1) (by simp only [List.getElem?_toArray, List.getElem?_cons_succ, List.getElem?_cons_zero]; exact rfl) ?s1_u103v2z1 ?s2_u103v2z1 ?s3_u103v2z1 ?s4_u103v2z1 ?s5_u103v2z1 ?s6_u103v2z1 ?s7_u103v2z1
                            case s1_u103v2z1 | s2_u103v2z1 | s3_u103v2z1 => kernel_rfl
                            case s4_u103v2z1 => exact fun _ _ _ h => h
                            case s5_u103v2z1 => exact Or.inl ⟨rfl, by intro w hSw; (try dsimp only at hSw); go_simp; try with_reducible rfl⟩
                            case s6_u103v2z1 => assumption
                            try simp only [Act.put, List.setIfInBounds_toArray, List.set_cons_zero, List.set_cons_succ]
                            with_reducible refine takeI2 (i := 17) (v := ?sv_u104v2z1) (oi := ?s0_u104v2z1) (by simp only [List.getElem?_toArray, List.getElem?_cons_succ, List.getElem?_cons_zero]; exact rfl) ?s1_u104v2z1 ?s2_u104v2z1 ?s3_u104v2z1 ?s4_u104v2z1 ?s5_u104v2z1 ?s6_u104v2z1 ?s7_u104v2z1
                            case s1_u104v2z1 | s2_u104v2z1 | s3_u104v2z1 => kernel_rfl
                            case s4_u104v2z1 => exact fun _ _ _ h => h
                            case s5_u104v2z1 => exact Or.inl ⟨rfl, by intro w hSw; (try dsimp only at hSw); go_simp; try with_reducible rfl⟩
                            case s6_u104v2z1 => assumption
                            try simp only [Act.put, List.setIfInBounds_toArray, List.set_cons_zero, List.set_cons_succ]
                            with_reducible refine takeI2 (i := 18) (v := ?sv_u105v2z1) (oi := ?s0_u105v2z1) (by simp only [List.getElem?_toArray, List.getElem?_cons_succ, List.getElem?_cons_zero]; exact rfl) ?s1_u105v2z1 ?s2_u105v2z1 ?s3_u105v2z1 ?s4_u105v2z1 ?s5_u105v2z1 ?s6_u105v2z1 ?s7_u105v2z1
                            case s1_u105v2z1 | s2_u105v2z1 | s3_u105v2z1 => kernel_rfl
                            case s4_u105v2z1 => exact fun _ _ _ h => h
                            case s5_u105v2z1 => exact Or.inl ⟨rfl, by intro w hSw; (try dsimp only at hSw); go_simp; try with_reducible rfl⟩
                            case s6_u105v2z1 => assumption
                            try simp only [Act.put, List.setIfInBounds_toArray, List.set_cons_zero, List.set_cons_succ]
                            with_reducible refine takeI2 (i := 19) (v := ?sv_u106v2z1) (oi := ?s0_u106v2z1) (by simp only [List.getElem?_toArray, List.getElem?_cons_succ, List.getElem?_cons_zero]; exact rfl) ?s1_u106v2z1 ?s2_u106v2z1 ?s3_u106v2z1 ?s4_u106v2z1 ?s5_u106v2z1 ?s6_u106v2z1 ?s7_u106v2z1
                            case s1_u106v2z1 | s2_u106v2z1 | s3_u106v2z1 => kernel_rfl
                            case s4_u106v2z1 => exact fun _ _ _ h => h
                            case s5_u106v2z1 => exact Or.inl ⟨rfl, by intro w hSw; (try dsimp only at hSw); go_simp; try with_reducible rfl⟩
                            case s6_u106v2z1 => assumption
                            try simp only [Act.put, List.setIfInBounds_toArray, List.set_cons_zero, List.set_cons_succ]
                            with_reducible refine takeI2 (i := 20) (v := ?sv_u107v2z1) (oi := ?s0_u107v2z1) (by simp only [List.getElem?_toArray, List.getElem?_cons_succ, List.getElem?_cons_zero]; exact rfl) ?s1_u107v2z1 ?s2_u107v2z1 ?s3_u107v2z1 ?s4_u107v2z1 ?s5_u107v2z1 ?s6_u107v2z1 ?s7_u107v2z1
                            case s1_u107v2z1 | s2_u107v2z1 | s3_u107v2z1 => kernel_rfl
                            case s4_u107v2z1 => exact fun _ _ _ h => h
                            case s5_u107v2z1 => exact Or.inl ⟨rfl, by intro w hSw; (try dsimp only at hSw); go_simp; try with_reducible rfl⟩
                            case s6_u107v2z1 => assumption
                            try simp only [Act.put, List.setIfInBounds_toArray, List.set_cons_zero, List.set_cons_succ]
                            with_reducible refine takeI2 (i := 21) (v := ?sv_u108v2z1) (oi := ?s0_u108v2z1) (by simp only [List.getElem?_toArray, List.getElem?_cons_succ, List.getElem?_cons_zero]; exact rfl) ?s1_u108v2z1 ?s2_u108v2z1 ?s3_u108v2z1 ?s4_u108v2z1 ?s5_u108v2z1 ?s6_u108v2z1 ?s7_u108v2z1
                            case s1_u108v2z1 | s2_u108v2z1 | s3_u108v2z1 => kernel_rfl
                            case s4_u108v2z1 => exact fun _ _ _ h => h
                            case s5_u108v2z1 => exact Or.inl ⟨rfl, by intro w hSw; (try dsimp only at hSw); go_simp; try with_reducible rfl⟩
                            case s6_u108v2z1 => assumption
                            try simp only [Act.put, List.setIfInBounds_toArray, List.set_cons_zero, List.set_cons_succ]
                            with_reducible refine takeI2 (i := 22) (v := ?sv_u109v2z1) (oi := ?s0_u109v2z1) (by simp only [List.getElem?_toArray, List.getElem?_cons_succ, List.getElem?_cons_zero]; exact rfl) ?s1_u109v2z1 ?s2_u109v2z1 ?s3_u109v2z1 ?s4_u109v2z1 ?s5_u109v2z1 ?s6_u109v2z1 ?s7_u109v2z1
                            case s1_u109v2z1 | s2_u109v2z1 | s3_u109v2z1 => kernel_rfl
                            case s4_u109v2z1 => exact fun _ _ _ h => h
                            case s5_u109v2z1 => exact Or.inl ⟨rfl, by intro w hSw; (try dsimp only at hSw); go_simp; try with_reducible rfl⟩
                            case s6_u109v2z1 => assumption
                            try simp only [Act.put, List.setIfInBounds_toArray, List.set_cons_zero, List.set_cons_succ]
                            with_reducible refine takeI2 (i := 23) (v := ?sv_u110v2z1) (oi := ?s0_u110v2z1) (by simp only [List.getElem?_toArray, List.getElem?_cons_succ, List.getElem?_cons_zero]; exact rfl) ?s1_u110v2z1 ?s2_u110v2z1 ?s3_u110v2z1 ?s4_u110v2z1 ?s5_u110v2z1 ?s6_u110v2z1 ?s7_u110v2z1
                            case s1_u110v2z1 | s2_u110v2z1 | s3_u110v2z1 => kernel_rfl
                            case s4_u110v2z1 => exact fun _ _ _ h => h
                            case s5_u110v2z1 => exact Or.inl ⟨rfl, by intro w hSw; (try dsimp only at hSw); go_simp; try with_reducible rfl⟩
                            case s6_u110v2z1 => assumption
                            try simp only [Act.put, List.setIfInBounds_toArray, List.set_cons_zero, List.set_cons_succ]
                            with_reducible refine takeI2 (i := 24) (v := ?sv_u111v2z1) (oi := ?s0_u111v2z1) (by simp only [List.getElem?_toArray, List.getElem?_cons_succ, List.getElem?_cons_zero]; exact rfl) ?s1_u111v2z1 ?s2_u111v2z1 ?s3_u111v2z1 ?s4_u111v2z1 ?s5_u111v2z1 ?s6_u111v2z1 ?s7_u111v2z1
                            case s1_u111v2z1 | s2_u111v2z1 | s3_u111v2z1 => kernel_rfl
                            case s4_u111v2z1 => exact fun _ _ _ h => h
                            case s5_u111v2z1 => exact Or.inl ⟨rfl, by intro w hSw; (try dsimp only at hSw); go_simp; try with_reducible rfl⟩
                            case s6_u111v2z1 => assumption
                            try simp only [Act.put, List.setIfInBounds_toArray, List.set_cons_zero, List.set_cons_succ]
                            with_reducible refine takeI2 (i := 25) (v := ?sv_u112v2z1) (oi := ?s0_u112v2z1) (by simp only [List.getElem?_toArray, List.getElem?_cons_succ, List.getElem?_cons_zero]; exact rfl) ?s1_u112v2z1 ?s2_u112v2z1 ?s3_u112v2z1 ?s4_u112v2z1 ?s5_u112v2z1 ?s6_u112v2z1 ?s7_u112v2z1
                            case s1_u112v2z1 | s2_u112v2z1 | s3_u112v2z1 => kernel_rfl
                            case s4_u112v2z1 => exact fun _ _ _ h => h
                            case s5_u112v2z1 => exact Or.inl ⟨rfl, by intro w hSw; (try dsimp only at hSw); go_simp; try with_reducible rfl⟩
                            case s6_u112v2z1 => assumption
                            try simp only [Act.put, List.setIfInBounds_toArray, List.set_cons_zero, List.set_cons_succ]
                            with_reducible refine takeI2 (i := 27) (v := ?sv_u113v2z1) (oi := ?s0_u113v2z1) (by simp only [List.getElem?_toArray, List.getElem?_cons_succ, List.getElem?_cons_zero]; exact rfl) ?s1_u113v2z1 ?s2_u113v2z1 ?s3_u113v2z1 ?s4_u113v2z1 ?s5_u113v2z1 ?s6_u113v2z1 ?s7_u113v2z1
                            case s1_u113v2z1 | s2_u113v2z1 | s3_u113v2z1 => kernel_rfl
                            case s4_u113v2z1 => exact fun _ _ _ h => h
                            case s5_u113v2z1 => exact Or.inl ⟨rfl, by intro w hSw; (try dsimp only at hSw); go_simp; try with_reducible rfl⟩
                            case s6_u113v2z1 => assumption
                            try simp only [Act.put, List.setIfInBounds_toArray, List.set_cons_zero, List.set_cons_succ]
                            with_reducible refine takeI2 (i := 28) (v := ?sv_u114v2z1) (oi := ?s0_u114v2z1) (by simp only [List.getElem?_toArray, List.getElem?_cons_succ, List.getElem?_cons_zero]; exact rfl) ?s1_u114v2z1 ?s2_u114v2z1 ?s3_u114v2z1 ?s4_u114v2z1 ?s5_u114v2z1 ?s6_u114v2z1 ?s7_u114v2z1
                            case s1_u114v2z1 | s2_u114v2z1 | s3_u114v2z1 => kernel_rfl
                            case s4_u114v2z1 => exact fun _ _ _ h => h
                            case s5_u114v2z1 => exact Or.inl ⟨rfl, by intro w hSw; (try dsimp only at hSw); go_simp; try with_reducible rfl⟩
                            case s6_u114v2z1 => assumption
                            try simp only [Act.put, List.setIfInBounds_toArray, List.set_cons_zero, List.set_cons_succ]
                            with_reducible refine wpAnyH_ready (rs := [26]) ?s1_u115v2z1 one_ne ?s2_u115v2z1
                            case s1_u115v2z1 => kernel_rfl
                            with_reducible refine AllReadyH.cons (o := ?s0_u115v2z1) (by simp only [List.getElem?_toArray, List.getElem?_cons_succ, List.getElem?_cons_zero]; exact rfl) (fun K hK => ?s3_u115v2z1) AllReadyH.nil
                            go_simp
                            refine (HNW.out ps _ _ _ _ (HKK.out.hR.below hD) (HKK.out.hP.below hD)).mono ?_
                            rw [HSN2.out.2]
                            rintro e w14 ⟨rfl, hb⟩
                            replace q0 := cell_on hb q0
                            replace q1 := cell_on hb q1
                            replace q2 := cell_on hb q2
                            replace q3 := cell_on hb q3
                            replace hD := bvia hD hb
                            replace hq2 := hq2.below hb
                            replace HCL := Lib.hid (fun k hk => cell_on hb (HCL.out k hk))
                            clear hb
                            go_wp2_with fail
                            with_reducible refine hK.out _ _ ?s1_u116v2z1 (fun hHeld => ?s2_u116v2z1)
                            case s1_u116v2z1 => exact ⟨q0, q1, q2, q3⟩
                            clear hK K
                            try simp only [Act.put, List.setIfInBounds_toArray, List.set_cons_zero, List.set_cons_succ]
                            with_reducible refine takeI2 (i := 29) (v := ?sv_u117v2z1) (oi := ?s0_u117v2z1) (by simp only [List.getElem?_toArray, List.getElem?_cons_succ, List.getElem?_cons_zero]; exact rfl) ?s1_u117v2z1 ?s2_u117v2z1 ?s3_u117v2z1 ?s4_u117v2z1 ?s5_u117v2z1 ?s6_u117v2z1 ?s7_u117v2z1
                            case s1_u117v2z1 | s2_u117v2z1 | s3_u117v2z1 => kernel_rfl
                            case s4_u117v2z1 => exact fun _ _ _ h => h
                            case s5_u117v2z1 => exact Or.inl ⟨rfl, by intro w hSw; (try dsimp only at hSw); go_simp; try with_reducible rfl⟩
                            case s6_u117v2z1 => assumption
                            try simp only [Act.put, List.setIfInBounds_toArray, List.set_cons_zero, List.set_cons_succ]
                            with_reducible refine takeI2 (i := 30) (v := ?sv_u118v2z1) (oi := ?s0_u118v2z1) (by simp only [List.getElem?_toArray, List.getElem?_cons_succ, List.getElem?_cons_zero]; exact rfl) ?s1_u118v2z1 ?s2_u118v2z1 ?s3_u118v2z1 ?s4_u118v2z1 ?s5_u118v2z1 ?s6_u118v2z1 ?s7_u118v2z1
                            case s1_u118v2z1 | s2_u118v2z1 | s3_u118v2z1 => kernel_rfl
                            case s4_u118v2z1 => exact fun _ _ _ h => h
                            case s5_u118v2z1 => exact Or.inl ⟨rfl, by intro w hSw; (try dsimp only at hSw); go_simp; try with_reducible rfl⟩
                            case s6_u118v2z1 => assumption
                            try simp only [Act.put, List.setIfInBounds_toArray, List.set_cons_zero, List.set_cons_succ]
                            with_reducible refine takeI2 (i := 31) (v := ?sv_u119v2z1) (oi := ?s0_u119v2z1) (by simp only [List.getElem?_toArray, List.getElem?_cons_succ, List.getElem?_cons_zero]; exact rfl) ?s1_u119v2z1 ?s2_u119v2z1 ?s3_u119v2z1 ?s4_u119v2z1 ?s5_u119v2z1 ?s6_u119v2z1 ?s7_u119v2z1
                            case s1_u119v2z1 | s2_u119v2z1 | s3_u119v2z1 => kernel_rfl
                            case s4_u119v2z1 => exact fun _ _ _ h => h
                            case s5_u119v2z1 => exact Or.inl ⟨rfl, by intro w hSw; (try dsimp only at hSw); go_simp; try with_reducible rfl⟩
                            case s6_u119v2z1 => assumption
                            try simp only [Act.put, List.setIfInBounds_toArray, List.set_cons_zero, List.set_cons_succ]
                            with_reducible refine takeI2 (i := 32) (v := ?sv_u120v2z1) (oi := ?s0_u120v2z1) (by simp only [List.getElem?_toArray, List.getElem?_cons_succ, List.getElem?_cons_zero]; exact rfl) ?s1_u120v2z1 ?s2_u120v2z1 ?s3_u120v2z1 ?s4_u120v2z1 ?s5_u120v2z1 ?s6_u120v2z1 ?s7_u120v2z1
                            case s1_u120v2z1 | s2_u120v2z1 | s3_u120v2z1 => kernel_rfl
                            case s4_u120v2z1 => exact fun _ _ _ h => h
                            case s5_u120v2z1 => exact Or.inl ⟨rfl, by intro w hSw; (try dsimp only at hSw); go_simp; try with_reducible rfl⟩
                            case s6_u120v2z1 => assumption
                            try simp only [Act.put, List.setIfInBounds_toArray, List.set_cons_zero, List.set_cons_succ]
                            with_reducible refine takeI2 (i := 33) (v := ?sv_u121v2z1) (oi := ?s0_u121v2z1) (by simp only [List.getElem?_toArray, List.getElem?_cons_succ, List.getElem?_cons_zero]; exact rfl) ?s1_u121v2z1 ?s2_u121v2z1 ?s3_u121v2z1 ?s4_u121v2z1 ?s5_u121v2z1 ?s6_u121v2z1 ?s7_u121v2z1
                            case s1_u121v2z1 | s2_u121v2z1 | s3_u121v2z1 => kernel_rfl
                            case s4_u121v2z1 => exact fun _ _ _ h => h
                            case s5_u121v2z1 => exact Or.inl ⟨rfl, by intro w hSw; (try dsimp only at hSw); go_simp; try with_reducible rfl⟩
                            case s6_u121v2z1 => assumption
                            try simp only [Act.put, List.setIfInBounds_toArray, List.set_cons_zero, List.set_cons_succ]
                            with_reducible refine takeI2 (i := 34) (v := ?sv_u122v2z1) (oi := ?s0_u122v2z1) (by simp only [List.getElem?_toArray, List.getElem?_cons_succ, List.getElem?_cons_zero]; exact rfl) ?s1_u122v2z1 ?s2_u122v2z1 ?s3_u122v2z1 ?s4_u122v2z1 ?s5_u122v2z1 ?s6_u122v2z1 ?s7_u122v2z1
                            case s1_u122v2z1 | s2_u122v2z1 | s3_u122v2z1 => kernel_rfl
                            case s4_u122v2z1 => exact fun _ _ _ h => h
                            case s5_u122v2z1 => exact Or.inl ⟨rfl, by intro w hSw; (try dsimp only at hSw); go_simp; try with_reducible rfl⟩
                            case s6_u122v2z1 => assumption
                            try simp only [Act.put, List.setIfInBounds_toArray, List.set_cons_zero, List.set_cons_succ]
                            with_reducible refine takeI2 (i := 36) (v := ?sv_u123v2z1) (oi := ?s0_u123v2z1) (by simp only [List.getElem?_toArray, List.getElem?_cons_succ, List.getElem?_cons_zero]; exact rfl) ?s1_u123v2z1 ?s2_u123v2z1 ?s3_u123v2z1 ?s4_u123v2z1 ?s5_u123v2z1 ?s6_u123v2z1 ?s7_u123v2z1
                            case s1_u123v2z1 | s2_u123v2z1 | s3_u123v2z1 => kernel_rfl
                            case s4_u123v2z1 => exact fun _ _ _ h => h
                            case s5_u123v2z1 => exact Or.inl ⟨rfl, by intro w hSw; (try dsimp only at hSw); go_simp; try with_reducible rfl⟩
                            case s6_u123v2z1 => assumption
                            try simp only [Act.put, List.setIfInBounds_toArray, List.set_cons_zero, List.set_cons_succ]
                            with_reducible refine takeI2 (i := 37) (v := ?sv_u124v2z1) (oi := ?s0_u124v2z1) (by simp only [List.getElem?_toArray, List.getElem?_cons_succ, List.getElem?_cons_zero]; exact rfl) ?s1_u124v2z1 ?s2_u124v2z1 ?s3_u124v2z1 ?s4_u124v2z1 ?s5_u124v2z1 ?s6_u124v2z1 ?s7_u124v2z1
                            case s1_u124v2z1 | s2_u124v2z1 | s3_u124v2z1 => kernel_rfl
                            case s4_u124v2z1 => exact fun _ _ _ h => h
                            case s5_u124v2z1 => exact Or.inl ⟨rfl, by intro w hSw; (try dsimp only at hSw); go_simp; try with_reducible rfl⟩
                            case s6_u124v2z1 => assumption
                            try simp only [Act.put, List.setIfInBounds_toArray, List.set_cons_zero, List.set_cons_succ]
                            with_reducible refine wpAnyH_ready (rs := [35]) ?s1_u125v2z1 one_ne ?s2_u125v2z1
                            case s1_u125v2z1 => kernel_rfl
                            with_reducible refine AllReadyH.cons (o := ?s0_u125v2z1) (by simp only [List.getElem?_toArray, List.getElem?_cons_succ, List.getElem?_cons_zero]; exact rfl) (fun K hK => ?s3_u125v2z1) AllReadyH.nil
                            go_simp
                            refine (HSW.out (ps.set j (-1)) _ _ _ _ (HKK.out.hR.below hD) (HKK.out.hP.below hD) hq2).mono ?_
                            rw [HSN2.out.1]
                            rintro e w15 ⟨rfl, hb⟩
                            replace q0 := cell_on hb q0
                            replace q1 := cell_on hb q1
                            replace q2 := cell_on hb q2
                            replace q3 := cell_on hb q3
                            replace hD := bvia hD hb
                            replace hq2 := hq2.below hb
                            replace HCL := Lib.hid (fun k hk => cell_on hb (HCL.out k hk))
                            clear hb
                            go_wp2_with fail
                            with_reducible refine hK.out _ _ ?s1_u126v2z1 (fun hHeld => ?s2_u126v2z1)
                            case s1_u126v2z1 => exact ⟨q0, q1, q2, q3⟩
                            clear hK K
                            try simp only [Act.put, List.setIfInBounds_toArray, List.set_cons_zero, List.set_cons_succ]
                            with_reducible refine takeI2 (i := 38) (v := ?sv_u127v2z1) (oi := ?s0_u127v2z1) (by simp only [List.getElem?_toArray, List.getElem?_cons_succ, List.getElem?_cons_zero]; exact rfl) ?s1_u127v2z1 ?s2_u127v2z1 ?s3_u127v2z1 ?s4_u127v2z1 ?s5_u127v2z1 ?s6_u127v2z1 ?s7_u127v2z1
                            case s1_u127v2z1 | s2_u127v2z1 | s3_u127v2z1 => kernel_rfl
                            case s4_u127v2z1 => exact fun _ _ _ h => h
                            case s5_u127v2z1 => exact Or.inl ⟨rfl, by intro w hSw; (try dsimp only at hSw); go_simp; try with_reducible rfl⟩
                            case s6_u127v2z1 => assumption
                            try simp only [Act.put, List.setIfInBounds_toArray, List.set_cons_zero, List.set_cons_succ]
                            with_reducible refine takeI2 (i := 39) (v := ?sv_u128v2z1) (oi := ?s0_u128v2z1) (by simp only [List.getElem?_toArray, List.getElem?_cons_succ, List.getElem?_cons_zero]; exact rfl) ?s1_u128v2z1 ?s2_u128v2z1 ?s3_u128v2z1 ?s4_u128v2z1 ?s5_u128v2z1 ?s6_u128v2z1 ?s7_u128v2z1
                            case s1_u128v2z1 | s2_u128v2z1 | s3_u128v2z1 => kernel_rfl
                            case s4_u128v2z1 => exact fun _ _ _ h => h
                            case s5_u128v2z1 => exact Or.inl ⟨rfl, by intro w hSw; (try dsimp only at hSw); go_simp; try with_reducible rfl⟩
                            case s6_u128v2z1 => assumption
                            try simp only [Act.put, List.setIfInBounds_toArray, List.set_cons_zero, List.set_cons_succ]
                            with_reducible refine wpAnyH_done ?s1_u129v2z1 ?s2_u129v2z1 _
                            case s1_u129v2z1 => kernel_rfl
                            clear q0 q1 q2 q3 HSN2 hq2 hwx
                            have hE0 := Below.refl w15.heap.size w15
                            go_wp2_with (fail)
                            go_loopw [17] (fun i wr => ∃ t : Nat, t ≤ q ∧ i = .int .i64 t ∧ Below w15.heap.size w15 wr) (fun i _ => q - (intOf i).toNat)
                            case atStart => exact ⟨0, Nat.zero_le _, rfl, hE0⟩
                            case round =>
                             focus
                              clear hE0
                              obtain ⟨t2, ht2, rfl, hE⟩ := hrel
                              obtain ⟨wo6, hwo6⟩ : ∃ wo6 : World, wo6 = wr := ⟨_, rfl⟩
                              subst hwo6
                              by_cases htq : t2 < q
                              · have qt : (t2 : Int) < (q : Int) := by omega
                                have p0 := cell_on (bvia hD hE).drew (HKK.out.cH t2 htq)
                                have p1 := cell_on hE.drew (HCL.out t2 htq)
                                have hll := HLE.out t2
                                generalize f t2 = x2 at p0 hll
                                generalize f2 t2 = y2 at p1 hll
                                have hll2 : decide (x2 < y2) = false := decide_eq_false (by omega)
                                clear hll
                                go_wp2_with (fail)
                                with_reducible refine region_beg (n := 9) (S := (fun w => w.cell? ⟨bh, oi + t2, none⟩ = some (.int .i64 x2) ∧ w.cell? ⟨bL, oL + t2, none⟩ = some (.int .i64 y2))) ?b1_u75v2z1 ?b2_u75v2z1 ?b3_u75v2z1 (fun hHeld => ?b4_u75v2z1)
                                case b1_u75v2z1 => kernel_rfl
                                case b2_u75v2z1 => kernel_rfl
                                case b3_u75v2z1 => exact ⟨p0, p1⟩
                                with_reducible refine takeI2 (i := 0) (v := ?sv_u76v2z1) (oi := ?s0_u76v2z1) (by simp only [List.getElem?_toArray, List.getElem?_cons_succ, List.getElem?_cons_zero]; exact rfl) ?s1_u76v2z1 ?s2_u76v2z1 ?s3_u76v2z1 ?s4_u76v2z1 ?s5_u76v2z1 ?s6_u76v2z1 ?s7_u76v2z1
                                case s1_u76v2z1 | s2_u76v2z1 | s3_u76v2z1 => kernel_rfl
                                case s4_u76v2z1 => exact fun _ _ _ h => h
                                case s5_u76v2z1 => exact Or.inl ⟨rfl, by intro w hSw; (try dsimp only at hSw); go_simp; try with_reducible rfl⟩
                                case s6_u76v2z1 => assumption
                                try simp only [Act.put, List.setIfInBounds_toArray, List.set_cons_zero, List.set_cons_succ]
                                with_reducible refine takeI2 (i := 1) (v := ?sv_u77v2z1) (oi := ?s0_u77v2z1) (by simp only [List.getElem?_toArray, List.getElem?_cons_succ, List.getElem?_cons_zero]; exact rfl) ?s1_u77v2z1 ?s2_u77v2z1 ?s3_u77v2z1 ?s4_u77v2z1 ?s5_u77v2z1 ?s6_u77v2z1 ?s7_u77v2z1
                                case s1_u77v2z1 | s2_u77v2z1 | s3_u77v2z1 => kernel_rfl
                                case s4_u77v2z1 => exact fun _ _ _ h => h
                                case s5_u77v2z1 => exact Or.inl ⟨rfl, by intro w hSw; (try dsimp only at hSw); go_simp; try with_reducible rfl⟩
                                case s6_u77v2z1 => assumption
                                try simp only [Act.put, List.setIfInBounds_toArray, List.set_cons_zero, List.set_cons_succ]
                                with_reducible refine takeI2 (i := 2) (v := ?sv_u78v2z1) (oi := ?s0_u78v2z1) (by simp only [List.getElem?_toArray, List.getElem?_cons_succ, List.getElem?_cons_zero]; exact rfl) ?s1_u78v2z1 ?s2_u78v2z1 ?s3_u78v2z1 ?s4_u78v2z1 ?s5_u78v2z1 ?s6_u78v2z1 ?s7_u78v2z1
                                case s1_u78v2z1 | s2_u78v2z1 | s3_u78v2z1 => kernel_rfl
                                case s4_u78v2z1 => exact fun _ _ _ h => h
                                case s5_u78v2z1 => exact Or.inl ⟨rfl, by intro w hSw; (try dsimp only at hSw); go_simp; try with_reducible rfl⟩
                                case s6_u78v2z1 => assumption
                                try simp only [Act.put, List.setIfInBounds_toArray, List.set_cons_zero, List.set_cons_succ]
                                with_reducible refine takeI2 (i := 3) (v := ?sv_u79v2z1) (oi := ?s0_u79v2z1) (by simp only [List.getElem?_toArray, List.getElem?_cons_succ, List.getElem?_cons_zero]; exact rfl) ?s1_u79v2z1 ?s2_u79v2z1 ?s3_u79v2z1 ?s4_u79v2z1 ?s5_u79v2z1 ?s6_u79v2z1 ?s7_u79v2z1
                                case s1_u79v2z1 | s2_u79v2z1 | s3_u79v2z1 => kernel_rfl
                                case s4_u79v2z1 => exact fun _ _ _ h => h
                                case s5_u79v2z1 => exact Or.inl ⟨rfl, by intro w hSw; (try dsimp only at hSw); go_simp; try with_reducible rfl⟩
                                case s6_u79v2z1 => assumption
                                try simp only [Act.put, List.setIfInBounds_toArray, List.set_cons_zero, List.set_cons_succ]
                                with_reducible refine takeI2 (i := 4) (v := ?sv_u80v2z1) (oi := ?s0_u80v2z1) (by simp only [List.getElem?_toArray, List.getElem?_cons_succ, List.getElem?_cons_zero]; exact rfl) ?s1_u80v2z1 ?s2_u80v2z1 ?s3_u80v2z1 ?s4_u80v2z1 ?s5_u80v2z1 ?s6_u80v2z1 ?s7_u80v2z1
                                case s1_u80v2z1 | s2_u80v2z1 | s3_u80v2z1 => kernel_rfl
                                case s4_u80v2z1 => exact fun _ _ _ h => h
                                case s5_u80v2z1 => exact Or.inl ⟨rfl, by intro w hSw; (try dsimp only at hSw); go_simp; try with_reducible rfl⟩
                                case s6_u80v2z1 => assumption
                                try simp only [Act.put, List.setIfInBounds_toArray, List.set_cons_zero, List.set_cons_succ]
                                with_reducible refine takeI2 (i := 5) (v := ?sv_u81v2z1) (oi := ?s0_u81v2z1) (by simp only [List.getElem?_toArray, List.getElem?_cons_succ, List.getElem?_cons_zero]; exact rfl) ?s1_u81v2z1 ?s2_u81v2z1 ?s3_u81v2z1 ?s4_u81v2z1 ?s5_u81v2z1 ?s6_u81v2z1 ?s7_u81v2z1
                                case s1_u81v2z1 | s2_u81v2z1 | s3_u81v2z1 => kernel_rfl
                                case s4_u81v2z1 => exact fun _ _ _ h => h
                                case s5_u81v2z1 => exact Or.inl ⟨rfl, by intro w hSw; (try dsimp only at hSw); go_simp; try with_reducible rfl⟩
                                case s6_u81v2z1 => assumption
                                try simp only [Act.put, List.setIfInBounds_toArray, List.set_cons_zero, List.set_cons_succ]
                                with_reducible refine takeI2 (i := 6) (v := ?sv_u82v2z1) (oi := ?s0_u82v2z1) (by simp only [List.getElem?_toArray, List.getElem?_cons_succ, List.getElem?_cons_zero]; exact rfl) ?s1_u82v2z1 ?s2_u82v2z1 ?s3_u82v2z1 ?s4_u82v2z1 ?s5_u82v2z1 ?s6_u82v2z1 ?s7_u82v2z1
                                case s1_u82v2z1 | s2_u82v2z1 | s3_u82v2z1 => kernel_rfl
                                case s4_u82v2z1 => exact fun _ _ _ h => h
                                case s5_u82v2z1 => exact Or.inl ⟨rfl, by intro w hSw; (try dsimp only at hSw); go_simp; try with_reducible rfl⟩
                                case s6_u82v2z1 => assumption
                                try simp only [Act.put, List.setIfInBounds_toArray, List.set_cons_zero, List.set_cons_succ]
                                with_reducible refine takeI2 (i := 7) (v := ?sv_u83v2z1) (oi := ?s0_u83v2z1) (by simp only [List.getElem?_toArray, List.getElem?_cons_succ, List.getElem?_cons_zero]; exact rfl) ?s1_u83v2z1 ?s2_u83v2z1 ?s3_u83v2z1 ?s4_u83v2z1 ?s5_u83v2z1 ?s6_u83v2z1 ?s7_u83v2z1
                                case s1_u83v2z1 | s2_u83v2z1 | s3_u83v2z1 => kernel_rfl
                                case s4_u83v2z1 => exact fun _ _ _ h => h
                                case s5_u83v2z1 => exact Or.inl ⟨rfl, by intro w hSw; (try dsimp only at hSw); go_simp; try with_reducible rfl⟩
                                case s6_u83v2z1 => assumption
                                try simp only [Act.put, List.setIfInBounds_toArray, List.set_cons_zero, List.set_cons_succ]
                                with_reducible refine takeI2 (i := 8) (v := ?sv_u84v2z1) (oi := ?s0_u84v2z1) (by simp only [List.getElem?_toArray, List.getElem?_cons_succ, List.getElem?_cons_zero]; exact rfl) ?s1_u84v2z1 ?s2_u84v2z1 ?s3_u84v2z1 ?s4_u84v2z1 ?s5_u84v2z1 ?s6_u84v2z1 ?s7_u84v2z1
                                case s1_u84v2z1 | s2_u84v2z1 | s3_u84v2z1 => kernel_rfl
                                case s4_u84v2z1 => exact fun _ _ _ h => h
                                case s5_u84v2z1 => exact Or.inl ⟨rfl, by intro w hSw; (try dsimp only at hSw); go_simp; try with_reducible rfl⟩
                                case s6_u84v2z1 => assumption
                                try simp only [Act.put, List.setIfInBounds_toArray, List.set_cons_zero, List.set_cons_succ]
                                with_reducible refine wpAnyH_done ?s1_u85v2z1 ?s2_u85v2z1 _
                                case s1_u85v2z1 => kernel_rfl
                                go_wp2_with (fail)
                                exact ⟨⟨t2 + 1, by omega, by go_num, hE.drew⟩, by simp [intOf]; omega⟩
                              · go_wp2_with (fail)
                                exact ⟨⟨j + 1, by omega, by go_num, bvia hD hE⟩, by simp [intOf]; omega⟩
                        · obtain rfl : j = q := by omega
                          go_wp2_with (fail)
                          obtain ⟨y, hyN, hwv, hy0⟩ := HWO.out.2 (by rw [HS.out]; omega)
                          refine (HWW.out _ _ _ (HKK.out.hR.below hD) (HKK.out.hP.below hD)).mono ?_
                          rw [hwv]
                          rintro e w17 ⟨rfl, hb⟩
                          replace hD := bvia hD hb
                          clear hb m0 m1 hwv
                          obtain ⟨m0, m1⟩ := HKK.out.hX.below hD
                          have c0 := cell_on hD (HKK.out.cP y hyN)
                          generalize pf ps y = z at c0 hy0
                          have z0 : ((y : Int) == -1) = false := beq_eq_false_iff_ne.2 (by omega)
                          have z1 : ((S : Int) == 1) = false := beq_eq_false_iff_ne.2 (by omega)
                          have z2 : (S == 1) = false := beq_eq_false_iff_ne.2 (by omega)
                          have z3 : decide ((y : Int) < 0) = false := decide_eq_false (by omega)
                          have z4 : (y : Int) < (j : Int) := by omega
                          go_wp2_with (fail)
                          go_returns
                          exact ⟨rfl, bvia HKK.out.hB hD⟩
                  · have qt : (t : Int) < (k : Int) := by omega
                    have qk1 : decide (1 < (k : Int)) = false := decide_eq_false (by omega)
                    have qk2 : decide (1 < k) = false := decide_eq_false (by omega)
                    by_cases hS1 : S = 1
                    · skip
                      replace hD := bvia hD hE
                      clear hE hW
                      have qS : decide ((1 : Int) < (S : Int)) = false := decide_eq_false (by omega)
                      have qS2 : decide (1 < S) = false := decide_eq_false (by omega)
                      have qN : (0 : Int) < (q : Int) := by omega
                      go_wp2_with (fail)
                      go_loopw [13] (fun i wr => i = .int .i64 0 ∧ Below w5.heap.size w5 wr) (fun i _ => 0)
                      case atStart => exact ⟨rfl, hD⟩
                      case round =>
                       focus
                        clear hD
                        obtain ⟨rfl, hD⟩ := hrel
                        obtain ⟨wo5, hwo5⟩ : ∃ wo5 : World, wo5 = wr := ⟨_, rfl⟩
                        subst hwo5
                        obtain ⟨m0, m1⟩ := HKK.out.hX.below hD
                        go_wp2_with (fail)
                        have hwv := HWO.out.1 (by rw [HS.out]; exact hS1)
                        refine (HWW.out _ _ _ (HKK.out.hR.below hD) (HKK.out.hP.below hD)).mono ?_
                        rw [hwv]
                        rintro e w17 ⟨rfl, hb⟩
                        replace hD := bvia hD hb
                        clear hb m0 m1 hwv
                        have z1 : ((S : Int) == 1) = true := beq_iff_eq.2 (by omega)
                        have z2 : (S == 1) = true := beq_iff_eq.2 (by omega)
                        go_wp2_with (fail)
                        go_returns
                        exact ⟨rfl, bvia HKK.out.hB hD⟩
                    · skip
                      replace hD := bvia hD hE
                      clear hE hW
                      have qS : (1 : Int) < (S : Int) := by omega
                      have qS2 : 1 < S := by omega
                      go_wp2_with (fail)
                      go_loopw [13] (fun i wr => ∃ j : Nat, j ≤ q ∧ i = .int .i64 j ∧ Below w5.heap.size w5 wr) (fun i _ => q - (intOf i).toNat)
                      case atStart => exact ⟨0, Nat.zero_le _, rfl, hD⟩
                      case round =>
                       focus
                        clear hD
                        obtain ⟨j, hj, rfl, hD⟩ := hrel
                        obtain ⟨wo5, hwo5⟩ : ∃ wo5 : World, wo5 = wr := ⟨_, rfl⟩
                        subst hwo5
                        obtain ⟨m0, m1⟩ := HKK.out.hX.below hD
                        by_cases hjq : j < q
                        · have qj : (j : Int) < (q : Int) := by omega
                          have hst : 1 < strN ps := by rw [HS.out]; exact qS2
                          have HW1 := Lib.hid (fun v w' h => implWithoutString_any ps (j : Int) (by have := HPL.out; omega) v w' h)
                          rw [wout_at HPL.out hjq] at HW1
                          have hset := set_pulls HOK.out hst hjq
                          have HI1 := Lib.hid (fun u v w' h h' => implHangPose_any q zs (ps.set j (-1)) hset u v w' h h')
                          rw [poseL_eq] at HI1
                          have HFA := Lib.hid (fun u v w' h h' => implFallOf_any q zs ps (j : Int) u v w' h h')
                          have hdf := fall_diff HOK.out hst hjq
                          have hle := fun i => set_le HOK.out hst hjq i
                          have hsf := same_fall HOK.out hst hjq
                          have hnf := need_fallB HOK.out hst hjq
                          have hbx := pose_bd HOK.out hjq
                          have hby := pose_bd hset hjq
                          rw [HFE.out] at hdf hbx
                          simp only [HFE.out] at hle
                          generalize hp (fill q (edges zs)) (pf (ps.set j (-1))) q = f2 at HI1 hdf hle hby
                          generalize fallV q zs ps j = d at HFA hdf hsf hnf
                          have HLE := Lib.hid hle
                          have HSN := Lib.hid (And.intro hsf hnf)
                          have HDF := Lib.hid (And.intro hdf (And.intro hbx hby))
                          clear hst hset hdf hle hsf hnf hbx hby
                          go_wp2_with (fail)
                          refine (HW1.out _ _ (HKK.out.hP.below hD)).mono ?_
                          rintro e w11 ⟨ux, rfl, ox, hb⟩
                          replace hD := bvia hD hb
                          have hq2 := ox.rd
                          clear hb ox m0 m1 HW1
                          obtain ⟨m0, m1⟩ := HKK.out.hX.below hD
                          go_wp2_with (fail)
                          refine (HFA.out _ _ _ (HKK.out.hR.below hD) (HKK.out.hP.below hD)).mono ?_
                          rintro e w12 ⟨rfl, hb⟩
                          replace hD := bvia hD hb
                          replace hq2 := hq2.below hb
                          clear hb m0 m1 HFA
                          obtain ⟨m0, m1⟩ := HKK.out.hX.below hD
                          go_wp2_with (fail)
                          refine (HI1.out _ _ _ (HKK.out.hR.below hD) hq2).mono ?_
                          rintro e w13 ⟨ul, rfl, ol, hb⟩
                          replace hD := bvia hD hb
                          replace hq2 := hq2.below hb
                          have hl := ol.rd
                          obtain ⟨aL, cL, bL, oL, rfl, haL, hcL⟩ := hl.rlc
                          obtain rfl := haL (by omega)
                          have HCL := Lib.hid hcL
                          clear hb m0 m1 HI1 ol hl haL hcL
                          have hwx : IntKind.i64.wrap (f j - f2 j) = d := by
                            have h := HDF.out
                            rw [h.1]
                            exact IntWalk.i64_in _ (by omega)
                          have hd0 : 0 ≤ d := by
                            have h := HDF.out
                            have h2 := HLE.out j
                            omega
                          clear HDF
                          have q2 := cell_on hD.drew (HKK.out.cH j hjq)
                          have q3 := cell_on (dr1 w13).below (HCL.out j hjq)
                          generalize f j = x at hwx q2
                          generalize f2 j = y at hwx q3
                          have hdn : decide (d < 0) = false := decide_eq_false (by omega)
                          have hqq : ((q : Int) == (q : Int)) = true := beq_self_eq_true _
                          by_cases hd1 : 0 < d
                          · have hd2 : (d == 0) = false := beq_eq_false_iff_ne.2 (by omega)
                            have hsn := HSN.out
                            rw [decide_eq_true hd1, decide_eq_false (show ¬ d = 0 by omega)] at hsn
                            have HSN2 := Lib.hid hsn
                            clear hsn HSN
                            go_wp2_with (fail)
                            obtain ⟨q0, q1⟩ := HKK.out.hX.below hD.drew
                            replace hD := hD.drew
                            replace hq2 := hq2.below (dr1 w13).below
                            replace HCL := Lib.hid (fun k hk => cell_on (dr1 w13).below (HCL.out k hk))
                            with_reducible refine region_beg (n := 40) (S := (fun w => w.cell? ⟨gx, 0, none⟩ = some (.int .i64 (q : Int)) ∧ w.cell? ⟨gx, 1, none⟩ = some (.slice al zs.length cl) ∧ w.cell? ⟨bh, oi + j, none⟩ = some (.int .i64 x) ∧ w.cell? ⟨bL, oL + j, none⟩ = some (.int .i64 y))) ?b1_u141v1z2 ?b2_u141v1z2 ?b3_u141v1z2 (fun hHeld => ?b4_u141v1z2)
                            case b1_u141v1z2 => kernel_rfl
                            case b2_u141v1z2 => kernel_rfl
                            case b3_u141v1z2 => exact ⟨q0, q1, q2, q3⟩
                            with_reducible refine takeI2 (i := 0) (v := ?sv_u142v1z2) (oi := ?s0_u142v1z2) (by simp only [List.getElem?_toArray, List.getElem?_cons_succ, List.getElem?_cons_zero]; exact rfl) ?s1_u142v1z2 ?s2_u142v1z2 ?s3_u142v1z2 ?s4_u142v1z2 ?s5_u142v1z2 ?s6_u142v1z2 ?s7_u142v1z2
                            case s1_u142v1z2 | s2_u142v1z2 | s3_u142v1z2 => kernel_rfl
                            case s4_u142v1z2 => exact fun _ _ _ h => h
                            case s5_u142v1z2 => exact Or.inl ⟨rfl, by intro w hSw; (try dsimp only at hSw); go_simp; try with_reducible rfl⟩
                            case s6_u142v1z2 => assumption
                            try simp only [Act.put, List.setIfInBounds_toArray, List.set_cons_zero, List.set_cons_succ]
                            with_reducible refine takeI2 (i := 1) (v := ?sv_u143v1z2) (oi := ?s0_u143v1z2) (by simp only [List.getElem?_toArray, List.getElem?_cons_succ, List.getElem?_cons_zero]; exact rfl) ?s1_u143v1z2 ?s2_u143v1z2 ?s3_u143v1z2 ?s4_u143v1z2 ?s5_u143v1z2 ?s6_u143v1z2 ?s7_u143v1z2
                            case s1_u143v1z2 | s2_u143v1z2 | s3_u143v1z2 => kernel_rfl
                            case s4_u143v1z2 => exact fun _ _ _ h => h
                            case s5_u143v1z2 => exact Or.inl ⟨rfl, by intro w hSw; (try dsimp only at hSw); go_simp; try with_reducible rfl⟩
                            case s6_u143v1z2 => assumption
                            try simp only [Act.put, List.setIfInBounds_toArray, List.set_cons_zero, List.set_cons_succ]
                            with_reducible refine takeI2 (i := 2) (v := ?sv_u144v1z2) (oi := ?s0_u144v1z2) (by simp only [List.getElem?_toArray, List.getElem?_cons_succ, List.getElem?_cons_zero]; exact rfl) ?s1_u144v1z2 ?s2_u144v1z2 ?s3_u144v1z2 ?s4_u144v1z2 ?s5_u144v1z2 ?s6_u144v1z2 ?s7_u144v1z2
                            case s1_u144v1z2 | s2_u144v1z2 | s3_u144v1z2 => kernel_rfl
                            case s4_u144v1z2 => exact fun _ _ _ h => h
                            case s5_u144v1z2 => exact Or.inl ⟨rfl, by intro w hSw; (try dsimp only at hSw); go_simp; try with_reducible rfl⟩
                            case s6_u144v1z2 => assumption
                            try simp only [Act.put, List.setIfInBounds_toArray, List.set_cons_zero, List.set_cons_succ]
                            with_reducible refine takeI2 (i := 3) (v := ?sv_u145v1z2) (oi := ?s0_u145v1z2) (by simp only [List.getElem?_toArray, List.getElem?_cons_succ, List.getElem?_cons_zero]; exact rfl) ?s1_u145v1z2 ?s2_u145v1z2 ?s3_u145v1z2 ?s4_u145v1z2 ?s5_u145v1z2 ?s6_u145v1z2 ?s7_u145v1z2
                            case s1_u145v1z2 | s2_u145v1z2 | s3_u145v1z2 => kernel_rfl
                            case s4_u145v1z2 => exact fun _ _ _ h => h
                            case s5_u145v1z2 => exact Or.inl ⟨rfl, by intro w hSw; (try dsimp only at hSw); go_simp; try with_reducible rfl⟩
                            case s6_u145v1z2 => assumption
                            try simp only [Act.put, List.setIfInBounds_toArray, List.set_cons_zero, List.set_cons_succ]
                            with_reducible refine takeI2 (i := 4) (v := ?sv_u146v1z2) (oi := ?s0_u146v1z2) (by simp only [List.getElem?_toArray, List.getElem?_cons_succ, List.getElem?_cons_zero]; exact rfl) ?s1_u146v1z2 ?s2_u146v1z2 ?s3_u146v1z2 ?s4_u146v1z2 ?s5_u146v1z2 ?s6_u146v1z2 ?s7_u146v1z2
                            case s1_u146v1z2 | s2_u146v1z2 | s3_u146v1z2 => kernel_rfl
                            case s4_u146v1z2 => exact fun _ _ _ h => h
                            case s5_u146v1z2 => exact Or.inl ⟨rfl, by intro w hSw; (try dsimp only at hSw); go_simp; try with_reducible rfl⟩
                            case s6_u146v1z2 => assumption
                            try simp only [Act.put, List.setIfInBounds_toArray, List.set_cons_zero, List.set_cons_succ]
                            with_reducible refine takeI2 (i := 5) (v := ?sv_u147v1z2) (oi := ?s0_u147v1z2) (by simp only [List.getElem?_toArray, List.getElem?_cons_succ, List.getElem?_cons_zero]; exact rfl) ?s1_u147v1z2 ?s2_u147v1z2 ?s3_u147v1z2 ?s4_u147v1z2 ?s5_u147v1z2 ?s6_u147v1z2 ?s7_u147v1z2
                            case s1_u147v1z2 | s2_u147v1z2 | s3_u147v1z2 => kernel_rfl
                            case s4_u147v1z2 => exact fun _ _ _ h => h
                            case s5_u147v1z2 => exact Or.inl ⟨rfl, by intro w hSw; (try dsimp only at hSw); go_simp; try with_reducible rfl⟩
                            case s6_u147v1z2 => assumption
                            try simp only [Act.put, List.setIfInBounds_toArray, List.set_cons_zero, List.set_cons_succ]
                            with_reducible refine takeI2 (i := 6) (v := ?sv_u148v1z2) (oi := ?s0_u148v1z2) (by simp only [List.getElem?_toArray, List.getElem?_cons_succ, List.getElem?_cons_zero]; exact rfl) ?s1_u148v1z2 ?s2_u148v1z2 ?s3_u148v1z2 ?s4_u148v1z2 ?s5_u148v1z2 ?s6_u148v1z2 ?s7_u148v1z2
                            case s1_u148v1z2 | s2_u148v1z2 | s3_u148v1z2 => kernel_rfl
                            case s4_u148v1z2 => exact fun _ _ _ h => h
                            case s5_u148v1z2 => exact Or.inl ⟨rfl, by intro w hSw; (try dsimp only at hSw); go_simp; try with_reducible rfl⟩
                            case s6_u148v1z2 => assumption
                            try simp only [Act.put, List.setIfInBounds_toArray, List.set_cons_zero, List.set_cons_succ]
                            with_reducible refine takeI2 (i := 7) (v := ?sv_u149v1z2) (oi := ?s0_u149v1z2) (by simp only [List.getElem?_toArray, List.getElem?_cons_succ, List.getElem?_cons_zero]; exact rfl) ?s1_u149v1z2 ?s2_u149v1z2 ?s3_u149v1z2 ?s4_u149v1z2 ?s5_u149v1z2 ?s6_u149v1z2 ?s7_u149v1z2
                            case s1_u149v1z2 | s2_u149v1z2 | s3_u149v1z2 => kernel_rfl
                            case s4_u149v1z2 => exact fun _ _ _ h => h
                            case s5_u149v1z2 => exact Or.inl ⟨rfl, by intro w hSw; (try dsimp only at hSw); go_simp; try with_reducible rfl⟩
                            case s6_u149v1z2 => assumption
                            try simp only [Act.put, List.setIfInBounds_toArray, List.set_cons_zero, List.set_cons_succ]
                            with_reducible refine takeI2 (i := 8) (v := ?sv_u150v1z2) (oi := ?s0_u150v1z2) (by simp only [List.getElem?_toArray, List.getElem?_cons_succ, List.getElem?_cons_zero]; exact rfl) ?s1_u150v1z2 ?s2_u150v1z2 ?s3_u150v1z2 ?s4_u150v1z2 ?s5_u150v1z2 ?s6_u150v1z2 ?s7_u150v1z2
                            case s1_u150v1z2 | s2_u150v1z2 | s3_u150v1z2 => kernel_rfl
                            case s4_u150v1z2 => exact fun _ _ _ h => h
                            case s5_u150v1z2 => exact Or.inl ⟨rfl, by intro w hSw; (try dsimp only at hSw); go_simp; try with_reducible rfl⟩
                            case s6_u150v1z2 => assumption
                            try simp only [Act.put, List.setIfInBounds_toArray, List.set_cons_zero, List.set_cons_succ]
                            with_reducible refine takeI2 (i := 9) (v := ?sv_u151v1z2) (oi := ?s0_u151v1z2) (by simp only [List.getElem?_toArray, List.getElem?_cons_succ, List.getElem?_cons_zero]; exact rfl) ?s1_u151v1z2 ?s2_u151v1z2 ?s3_u151v1z2 ?s4_u151v1z2 ?s5_u151v1z2 ?s6_u151v1z2 ?s7_u151v1z2
                            case s1_u151v1z2 | s2_u151v1z2 | s3_u151v1z2 => kernel_rfl
                            case s4_u151v1z2 => exact fun _ _ _ h => h
                            case s5_u151v1z2 => exact Or.inl ⟨rfl, by intro w hSw; (try dsimp only at hSw); go_simp; try with_reducible rfl⟩
                            case s6_u151v1z2 => assumption
                            try simp only [Act.put, List.setIfInBounds_toArray, List.set_cons_zero, List.set_cons_succ]
                            with_reducible refine takeI2 (i := 10) (v := ?sv_u152v1z2) (oi := ?s0_u152v1z2) (by simp only [List.getElem?_toArray, List.getElem?_cons_succ, List.getElem?_cons_zero]; exact rfl) ?s1_u152v1z2 ?s2_u152v1z2 ?s3_u152v1z2 ?s4_u152v1z2 ?s5_u152v1z2 ?s6_u152v1z2 ?s7_u152v1z2
                            case s1_u152v1z2 | s2_u152v1z2 | s3_u152v1z2 => kernel_rfl
                            case s4_u152v1z2 => exact fun _ _ _ h => h
                            case s5_u152v1z2 => exact Or.inl ⟨rfl, by intro w hSw; (try dsimp only at hSw); go_simp; try with_reducible rfl⟩
                            case s6_u152v1z2 => assumption
                            try simp only [Act.put, List.setIfInBounds_toArray, List.set_cons_zero, List.set_cons_succ]
                            with_reducible refine takeI2 (i := 11) (v := ?sv_u153v1z2) (oi := ?s0_u153v1z2) (by simp only [List.getElem?_toArray, List.getElem?_cons_succ, List.getElem?_cons_zero]; exact rfl) ?s1_u153v1z2 ?s2_u153v1z2 ?s3_u153v1z2 ?s4_u153v1z2 ?s5_u153v1z2 ?s6_u153v1z2 ?s7_u153v1z2
                            case s1_u153v1z2 | s2_u153v1z2 | s3_u153v1z2 => kernel_rfl
                            case s4_u153v1z2 => exact fun _ _ _ h => h
                            case s5_u153v1z2 => exact Or.inl ⟨rfl, by intro w hSw; (try dsimp only at hSw); go_simp; try with_reducible rfl⟩
                            case s6_u153v1z2 => assumption
                            try simp only [Act.put, List.setIfInBounds_toArray, List.set_cons_zero, List.set_cons_succ]
                            with_reducible refine takeI2 (i := 12) (v := ?sv_u154v1z2) (oi := ?s0_u154v1z2) (by simp only [List.getElem?_toArray, List.getElem?_cons_succ, List.getElem?_cons_zero]; exact rfl) ?s1_u154v1z2 ?s2_u154v1z2 ?s3_u154v1z2 ?s4_u154v1z2 ?s5_u154v1z2 ?s6_u154v1z2 ?s7_u154v1z2
                            case s1_u154v1z2 | s2_u154v1z2 | s3_u154v1z2 => kernel_rfl
                            case s4_u154v1z2 => exact fun _ _ _ h => h
                            case s5_u154v1z2 => exact Or.inl ⟨rfl, by intro w hSw; (try dsimp only at hSw); go_simp; try with_reducible rfl⟩
                            case s6_u154v1z2 => assumption
                            try simp only [Act.put, List.setIfInBounds_toArray, List.set_cons_zero, List.set_cons_succ]
                            with_reducible refine takeI2 (i := 13) (v := ?sv_u155v1z2) (oi := ?s0_u155v1z2) (by simp only [List.getElem?_toArray, List.getElem?_cons_succ, List.getElem?_cons_zero]; exact rfl) ?s1_u155v1z2 ?s2_u155v1z2 ?s3_u155v1z2 ?s4_u155v1z2 ?s5_u155v1z2 ?s6_u155v1z2 ?s7_u155v1z2
                            case s1_u155v1z2 | s2_u155v1z2 | s3_u155v1z2 => kernel_rfl
                            case s4_u155v1z2 => exact fun _ _ _ h => h
                            case s5_u155v1z2 => exact Or.inl ⟨rfl, by intro w hSw; (try dsimp only at hSw); go_simp; try with_reducible rfl⟩
                            case s6_u155v1z2 => assumption
                            try simp only [Act.put, List.setIfInBounds_toArray, List.set_cons_zero, List.set_cons_succ]
                            with_reducible refine takeI2 (i := 14) (v := ?sv_u156v1z2) (oi := ?s0_u156v1z2) (by simp only [List.getElem?_toArray, List.getElem?_cons_succ, List.getElem?_cons_zero]; exact rfl) ?s1_u156v1z2 ?s2_u156v1z2 ?s3_u156v1z2 ?s4_u156v1z2 ?s5_u156v1z2 ?s6_u156v1z2 ?s7_u156v1z2
                            case s1_u156v1z2 | s2_u156v1z2 | s3_u156v1z2 => kernel_rfl
                            case s4_u156v1z2 => exact fun _ _ _ h => h
                            case s5_u156v1z2 => exact Or.inl ⟨rfl, by intro w hSw; (try dsimp only at hSw); go_simp; try with_reducible rfl⟩
                            case s6_u156v1z2 => assumption
                            try simp only [Act.put, List.setIfInBounds_toArray, List.set_cons_zero, List.set_cons_succ]
                            with_reducible refine takeI2 (i := 15) (v := ?sv_u157v1z2) (oi := ?s0_u157v1z2) (by simp only [List.getElem?_toArray, List.getElem?_cons_succ, List.getElem?_cons_zero]; exact rfl) ?s1_u157v1z2 ?s2_u157v1z2 ?s3_u157v1z2 ?s4_u157v1z2 ?s5_u157v1z2 ?s6_u157v1z2 ?s7_u157v1z2
                            case s1_u157v1z2 | s2_u157v1z2 | s3_u157v1z2 => kernel_rfl
                            case s4_u157v1z2 => exact fun _ _ _ h => h
                            case s5_u157v1z2 => exact Or.inl ⟨rfl, by intro w hSw; (try dsimp only at hSw); go_simp; try with_reducible rfl⟩
                            case s6_u157v1z2 => assumption
                            try simp only [Act.put, List.setIfInBounds_toArray, List.set_cons_zero, List.set_cons_succ]
                            with_reducible refine takeI2 (i := 16) (v := ?sv_u158v1z2) (oi := ?s0_u158v1z2) (by simp only [List.getElem?_toArray, List.getElem?_cons_succ, List.getElem?_cons_zero]; exact rfl) ?s1_u158v1z2 ?s2_u158v1z2 ?s3_u158v1z2 ?s4_u158v1z2 ?s5_u158v1z2 ?s6_u158v1z2 ?s7_u158v1z2
                            case s1_u158v1z2 | s2_u158v1z2 | s3_u158v1z2 => kernel_rfl
                            case s4_u158v1z2 => exact fun _ _ _ h => h
                            case s5_u158v1z2 => exact Or.inl ⟨rfl, by intro w hSw; (try dsimp only at hSw); go_simp; try with_reducible rfl⟩
                            case s6_u158v1z2 => assumption
                            try simp only [Act.put, List.setIfInBounds_toArray, List.set_cons_zero, List.set_cons_succ]
                            with_reducible refine takeI2 (i := 17) (v := ?sv_u159v1z2) (oi := ?s0_u159v1z2) (by simp only [List.getElem?_toArray, List.getElem?_cons_succ, List.getElem?_cons_zero]; exact rfl) ?s1_u159v1z2 ?s2_u159v1z2 ?s3_u159v1z2 ?s4_u159v1z2 ?s5_u159v1z2 ?s6_u159v1z2 ?s7_u159v1z2
                            case s1_u159v1z2 | s2_u159v1z2 | s3_u159v1z2 => kernel_rfl
                            case s4_u159v1z2 => exact fun _ _ _ h => h
                            case s5_u159v1z2 => exact Or.inl ⟨rfl, by intro w hSw; (try dsimp only at hSw); go_simp; try with_reducible rfl⟩
                            case s6_u159v1z2 => assumption
                            try simp only [Act.put, List.setIfInBounds_toArray, List.set_cons_zero, List.set_cons_succ]
                            with_reducible refine takeI2 (i := 18) (v := ?sv_u160v1z2) (oi := ?s0_u160v1z2) (by simp only [List.getElem?_toArray, List.getElem?_cons_succ, List.getElem?_cons_zero]; exact rfl) ?s1_u160v1z2 ?s2_u160v1z2 ?s3_u160v1z2 ?s4_u160v1z2 ?s5_u160v1z2 ?s6_u160v1z2 ?s7_u160v1z2
                            case s1_u160v1z2 | s2_u160v1z2 | s3_u160v1z2 => kernel_rfl
                            case s4_u160v1z2 => exact fun _ _ _ h => h
                            case s5_u160v1z2 => exact Or.inl ⟨rfl, by intro w hSw; (try dsimp only at hSw); go_simp; try with_reducible rfl⟩
                            case s6_u160v1z2 => assumption
                            try simp only [Act.put, List.setIfInBounds_toArray, List.set_cons_zero, List.set_cons_succ]
                            with_reducible refine takeI2 (i := 19) (v := ?sv_u161v1z2) (oi := ?s0_u161v1z2) (by simp only [List.getElem?_toArray, List.getElem?_cons_succ, List.getElem?_cons_zero]; exact rfl) ?s1_u161v1z2 ?s2_u161v1z2 ?s3_u161v1z2 ?s4_u161v1z2 ?s5_u161v1z2 ?s6_u161v1z2 ?s7_u161v1z2
                            case s1_u161v1z2 | s2_u161v1z2 | s3_u161v1z2 => kernel_rfl
                            case s4_u161v1z2 => exact fun _ _ _ h => h
                            case s5_u161v1z2 => exact Or.inl ⟨rfl, by intro w hSw; (try dsimp only at hSw); go_simp; try with_reducible rfl⟩
                            case s6_u161v1z2 => assumption
                            try simp only [Act.put, List.setIfInBounds_toArray, List.set_cons_zero, List.set_cons_succ]
                            with_reducible refine takeI2 (i := 20) (v := ?sv_u162v1z2) (oi := ?s0_u162v1z2) (by simp only [List.getElem?_toArray, List.getElem?_cons_succ, List.getElem?_cons_zero]; exact rfl) ?s1_u162v1z2 ?s2_u162v1z2 ?s3_u162v1z2 ?s4_u162v1z2 ?s5_u162v1z2 ?s6_u162v1z2 ?s7_u162v1z2
                            case s1_u162v1z2 | s2_u162v1z2 | s3_u162v1z2 => kernel_rfl
                            case s4_u162v1z2 => exact fun _ _ _ h => h
                            case s5_u162v1z2 => exact Or.inl ⟨rfl, by intro w hSw; (try dsimp only at hSw); go_simp; try with_reducible rfl⟩
                            case s6_u162v1z2 => assumption
                            try simp only [Act.put, List.setIfInBounds_toArray, List.set_cons_zero, List.set_cons_succ]
                            with_reducible refine takeI2 (i := 21) (v := ?sv_u163v1z2) (oi := ?s0_u163v1z2) (by simp only [List.getElem?_toArray, List.getElem?_cons_succ, List.getElem?_cons_zero]; exact rfl) ?s1_u163v1z2 ?s2_u163v1z2 ?s3_u163v1z2 ?s4_u163v1z2 ?s5_u163v1z2 ?s6_u163v1z2 ?s7_u163v1z2
                            case s1_u163v1z2 | s2_u163v1z2 | s3_u163v1z2 => kernel_rfl
                            case s4_u163v1z2 => exact fun _ _ _ h => h
                            case s5_u163v1z2 => exact Or.inl ⟨rfl, by intro w hSw; (try dsimp only at hSw); go_simp; try with_reducible rfl⟩
                            case s6_u163v1z2 => assumption
                            try simp only [Act.put, List.setIfInBounds_toArray, List.set_cons_zero, List.set_cons_succ]
                            with_reducible refine takeI2 (i := 22) (v := ?sv_u164v1z2) (oi := ?s0_u164v1z2) (by simp only [List.getElem?_toArray, List.getElem?_cons_succ, List.getElem?_cons_zero]; exact rfl) ?s1_u164v1z2 ?s2_u164v1z2 ?s3_u164v1z2 ?s4_u164v1z2 ?s5_u164v1z2 ?s6_u164v1z2 ?s7_u164v1z2
                            case s1_u164v1z2 | s2_u164v1z2 | s3_u164v1z2 => kernel_rfl
                            case s4_u164v1z2 => exact fun _ _ _ h => h
                            case s5_u164v1z2 => exact Or.inl ⟨rfl, by intro w hSw; (try dsimp only at hSw); go_simp; try with_reducible rfl⟩
                            case s6_u164v1z2 => assumption
                            try simp only [Act.put, List.setIfInBounds_toArray, List.set_cons_zero, List.set_cons_succ]
                            with_reducible refine takeI2 (i := 23) (v := ?sv_u165v1z2) (oi := ?s0_u165v1z2) (by simp only [List.getElem?_toArray, List.getElem?_cons_succ, List.getElem?_cons_zero]; exact rfl) ?s1_u165v1z2 ?s2_u165v1z2 ?s3_u165v1z2 ?s4_u165v1z2 ?s5_u165v1z2 ?s6_u165v1z2 ?s7_u165v1z2
                            case s1_u165v1z2 | s2_u165v1z2 | s3_u165v1z2 => kernel_rfl
                            case s4_u165v1z2 => exact fun _ _ _ h => h
                            case s5_u165v1z2 => exact Or.inl ⟨rfl, by intro w hSw; (try dsimp only at hSw); go_simp; try with_reducible rfl⟩
                            case s6_u165v1z2 => assumption
                            try simp only [Act.put, List.setIfInBounds_toArray, List.set_cons_zero, List.set_cons_succ]
                            with_reducible refine takeI2 (i := 24) (v := ?sv_u166v1z2) (oi := ?s0_u166v1z2) (by simp only [List.getElem?_toArray, List.getElem?_cons_succ, List.getElem?_cons_zero]; exact rfl) ?s1_u166v1z2 ?s2_u166v1z2 ?s3_u166v1z2 ?s4_u166v1z2 ?s5_u166v1z2 ?s6_u166v1z2 ?s7_u166v1z2
                            case s1_u166v1z2 | s2_u166v1z2 | s3_u166v1z2 => kernel_rfl
                            case s4_u166v1z2 => exact fun _ _ _ h => h
                            case s5_u166v1z2 => exact Or.inl ⟨rfl, by intro w hSw; (try dsimp only at hSw); go_simp; try with_reducible rfl⟩
                            case s6_u166v1z2 => assumption
                            try simp only [Act.put, List.setIfInBounds_toArray, List.set_cons_zero, List.set_cons_succ]
                            with_reducible refine takeI2 (i := 25) (v := ?sv_u167v1z2) (oi := ?s0_u167v1z2) (by simp only [List.getElem?_toArray, List.getElem?_cons_succ, List.getElem?_cons_zero]; exact rfl) ?s1_u167v1z2 ?s2_u167v1z2 ?s3_u167v1z2 ?s4_u167v1z2 ?s5_u167v1z2 ?s6_u167v1z2 ?s7_u167v1z2
                            case s1_u167v1z2 | s2_u167v1z2 | s3_u167v1z2 => kernel_rfl
                            case s4_u167v1z2 => exact fun _ _ _ h => h
                            case s5_u167v1z2 => exact Or.inl ⟨rfl, by intro w hSw; (try dsimp only at hSw); go_simp; try with_reducible rfl⟩
                            case s6_u167v1z2 => assumption
                            try simp only [Act.put, List.setIfInBounds_toArray, List.set_cons_zero, List.set_cons_succ]
                            with_reducible refine takeI2 (i := 27) (v := ?sv_u168v1z2) (oi := ?s0_u168v1z2) (by simp only [List.getElem?_toArray, List.getElem?_cons_succ, List.getElem?_cons_zero]; exact rfl) ?s1_u168v1z2 ?s2_u168v1z2 ?s3_u168v1z2 ?s4_u168v1z2 ?s5_u168v1z2 ?s6_u168v1z2 ?s7_u168v1z2
                            case s1_u168v1z2 | s2_u168v1z2 | s3_u168v1z2 => kernel_rfl
                            case s4_u168v1z2 => exact fun _ _ _ h => h
                            case s5_u168v1z2 => exact Or.inl ⟨rfl, by intro w hSw; (try dsimp only at hSw); go_simp; try with_reducible rfl⟩
                            case s6_u168v1z2 => assumption
                            try simp only [Act.put, List.setIfInBounds_toArray, List.set_cons_zero, List.set_cons_succ]
                            with_reducible refine takeI2 (i := 28) (v := ?sv_u169v1z2) (oi := ?s0_u169v1z2) (by simp only [List.getElem?_toArray, List.getElem?_cons_succ, List.getElem?_cons_zero]; exact rfl) ?s1_u169v1z2 ?s2_u169v1z2 ?s3_u169v1z2 ?s4_u169v1z2 ?s5_u169v1z2 ?s6_u169v1z2 ?s7_u169v1z2
                            case s1_u169v1z2 | s2_u169v1z2 | s3_u169v1z2 => kernel_rfl
                            case s4_u169v1z2 => exact fun _ _ _ h => h
                            case s5_u169v1z2 => exact Or.inl ⟨rfl, by intro w hSw; (try dsimp only at hSw); go_simp; try with_reducible rfl⟩
                            case s6_u169v1z2 => assumption
                            try simp only [Act.put, List.setIfInBounds_toArray, List.set_cons_zero, List.set_cons_succ]
                            with_reducible refine wpAnyH_ready (rs := [26]) ?s1_u170v1z2 one_ne ?s2_u170v1z2
                            case s1_u170v1z2 => kernel_rfl
                            with_reducible refine AllReadyH.cons (o := ?s0_u170v1z2) (by simp only [List.getElem?_toArray, List.getElem?_cons_succ, List.getElem?_cons_zero]; exact rfl) (fun K hK => ?s3_u170v1z2) AllReadyH.nil
                            go_simp
                            refine (HNW.out ps _ _ _ _ (HKK.out.hR.below hD) (HKK.out.hP.below hD)).mono ?_
                            rw [HSN2.out.2]
                            rintro e w14 ⟨rfl, hb⟩
                            replace q0 := cell_on hb q0
                            replace q1 := cell_on hb q1
                            replace q2 := cell_on hb q2
                            replace q3 := cell_on hb q3
                            replace hD := bvia hD hb
                            replace hq2 := hq2.below hb
                            replace HCL := Lib.hid (fun k hk => cell_on hb (HCL.out k hk))
                            clear hb
                            go_wp2_with fail
                            with_reducible refine hK.out _ _ ?s1_u171v1z2 (fun hHeld => ?s2_u171v1z2)
                            case s1_u171v1z2 => exact ⟨q0, q1, q2, q3⟩
                            clear hK K
                            try simp only [Act.put, List.setIfInBounds_toArray, List.set_cons_zero, List.set_cons_succ]
                            with_reducible refine takeI2 (i := 29) (v := ?sv_u172v1z2) (oi := ?s0_u172v1z2) (by simp only [List.getElem?_toArray, List.getElem?_cons_succ, List.getElem?_cons_zero]; exact rfl) ?s1_u172v1z2 ?s2_u172v1z2 ?s3_u172v1z2 ?s4_u172v1z2 ?s5_u172v1z2 ?s6_u172v1z2 ?s7_u172v1z2
                            case s1_u172v1z2 | s2_u172v1z2 | s3_u172v1z2 => kernel_rfl
                            case s4_u172v1z2 => exact fun _ _ _ h => h
                            case s5_u172v1z2 => exact Or.inl ⟨rfl, by intro w hSw; (try dsimp only at hSw); go_simp; try with_reducible rfl⟩
                            case s6_u172v1z2 => assumption
                            try simp only [Act.put, List.setIfInBounds_toArray, List.set_cons_zero, List.set_cons_succ]
                            with_reducible refine takeI2 (i := 30) (v := ?sv_u173v1z2) (oi := ?s0_u173v1z2) (by simp only [List.getElem?_toArray, List.getElem?_cons_succ, List.getElem?_cons_zero]; exact rfl) ?s1_u173v1z2 ?s2_u173v1z2 ?s3_u173v1z2 ?s4_u173v1z2 ?s5_u173v1z2 ?s6_u173v1z2 ?s7_u173v1z2
                            case s1_u173v1z2 | s2_u173v1z2 | s3_u173v1z2 => kernel_rfl
                            case s4_u173v1z2 => exact fun _ _ _ h => h
                            case s5_u173v1z2 => exact Or.inl ⟨rfl, by intro w hSw; (try dsimp only at hSw); go_simp; try with_reducible rfl⟩
                            case s6_u173v1z2 => assumption
                            try simp only [Act.put, List.setIfInBounds_toArray, List.set_cons_zero, List.set_cons_succ]
                            with_reducible refine takeI2 (i := 31) (v := ?sv_u174v1z2) (oi := ?s0_u174v1z2) (by simp only [List.getElem?_toArray, List.getElem?_cons_succ, List.getElem?_cons_zero]; exact rfl) ?s1_u174v1z2 ?s2_u174v1z2 ?s3_u174v1z2 ?s4_u174v1z2 ?s5_u174v1z2 ?s6_u174v1z2 ?s7_u174v1z2
                            case s1_u174v1z2 | s2_u174v1z2 | s3_u174v1z2 => kernel_rfl
                            case s4_u174v1z2 => exact fun _ _ _ h => h
                            case s5_u174v1z2 => exact Or.inl ⟨rfl, by intro w hSw; (try dsimp only at hSw); go_simp; try with_reducible rfl⟩
                            case s6_u174v1z2 => assumption
                            try simp only [Act.put, List.setIfInBounds_toArray, List.set_cons_zero, List.set_cons_succ]
                            with_reducible refine takeI2 (i := 32) (v := ?sv_u175v1z2) (oi := ?s0_u175v1z2) (by simp only [List.getElem?_toArray, List.getElem?_cons_succ, List.getElem?_cons_zero]; exact rfl) ?s1_u175v1z2 ?s2_u175v1z2 ?s3_u175v1z2 ?s4_u175v1z2 ?s5_u175v1z2 ?s6_u175v1z2 ?s7_u175v1z2
                            case s1_u175v1z2 | s2_u175v1z2 | s3_u175v1z2 => kernel_rfl
                            case s4_u175v1z2 => exact fun _ _ _ h => h
                            case s5_u175v1z2 => exact Or.inl ⟨rfl, by intro w hSw; (try dsimp only at hSw); go_simp; try with_reducible rfl⟩
                            case s6_u175v1z2 => assumption
                            try simp only [Act.put, List.setIfInBounds_toArray, List.set_cons_zero, List.set_cons_succ]
                            with_reducible refine takeI2 (i := 33) (v := ?sv_u176v1z2) (oi := ?s0_u176v1z2) (by simp only [List.getElem?_toArray, List.getElem?_cons_succ, List.getElem?_cons_zero]; exact rfl) ?s1_u176v1z2 ?s2_u176v1z2 ?s3_u176v1z2 ?s4_u176v1z2 ?s5_u176v1z2 ?s6_u176v1z2 ?s7_u176v1z2
                            case s1_u176v1z2 | s2_u176v1z2 | s3_u176v1z2 => kernel_rfl
                            case s4_u176v1z2 => exact fun _ _ _ h => h
                            case s5_u176v1z2 => exact Or.inl ⟨rfl, by intro w hSw; (try dsimp only at hSw); go_simp; try with_reducible rfl⟩
                            case s6_u176v1z2 => assumption
                            try simp only [Act.put, List.setIfInBounds_toArray, List.set_cons_zero, List.set_cons_succ]
                            with_reducible refine takeI2 (i := 34) (v := ?sv_u177v1z2) (oi := ?s0_u177v1z2) (by simp only [List.getElem?_toArray, List.getElem?_cons_succ, List.getElem?_cons_zero]; exact rfl) ?s1_u177v1z2 ?s2_u177v1z2 ?s3_u177v1z2 ?s4_u177v1z2 ?s5_u177v1z2 ?s6_u177v1z2 ?s7_u177v1z2
                            case s1_u177v1z2 | s2_u177v1z2 | s3_u177v1z2 => kernel_rfl
                            case s4_u177v1z2 => exact fun _ _ _ h => h
                            case s5_u177v1z2 => exact Or.inl ⟨rfl, by intro w hSw; (try dsimp only at hSw); go_simp; try with_reducible rfl⟩
                            case s6_u177v1z2 => assumption
                            try simp only [Act.put, List.setIfInBounds_toArray, List.set_cons_zero, List.set_cons_succ]
                            with_reducible refine takeI2 (i := 36) (v := ?sv_u178v1z2) (oi := ?s0_u178v1z2) (by simp only [List.getElem?_toArray, List.getElem?_cons_succ, List.getElem?_cons_zero]; exact rfl) ?s1_u178v1z2 ?s2_u178v1z2 ?s3_u178v1z2 ?s4_u178v1z2 ?s5_u178v1z2 ?s6_u178v1z2 ?s7_u178v1z2
                            case s1_u178v1z2 | s2_u178v1z2 | s3_u178v1z2 => kernel_rfl
                            case s4_u178v1z2 => exact fun _ _ _ h => h
                            case s5_u178v1z2 => exact Or.inl ⟨rfl, by intro w hSw; (try dsimp only at hSw); go_simp; try with_reducible rfl⟩
                            case s6_u178v1z2 => assumption
                            try simp only [Act.put, List.setIfInBounds_toArray, List.set_cons_zero, List.set_cons_succ]
                            with_reducible refine takeI2 (i := 37) (v := ?sv_u179v1z2) (oi := ?s0_u179v1z2) (by simp only [List.getElem?_toArray, List.getElem?_cons_succ, List.getElem?_cons_zero]; exact rfl) ?s1_u179v1z2 ?s2_u179v1z2 ?s3_u179v1z2 ?s4_u179v1z2 ?s5_u179v1z2 ?s6_u179v1z2 ?s7_u179v1z2
                            case s1_u179v1z2 | s2_u179v1z2 | s3_u179v1z2 => kernel_rfl
                            case s4_u179v1z2 => exact fun _ _ _ h => h
                            case s5_u179v1z2 => exact Or.inl ⟨rfl, by intro w hSw; (try dsimp only at hSw); go_simp; try with_reducible rfl⟩
                            case s6_u179v1z2 => assumption
                            try simp only [Act.put, List.setIfInBounds_toArray, List.set_cons_zero, List.set_cons_succ]
                            with_reducible refine wpAnyH_ready (rs := [35]) ?s1_u180v1z2 one_ne ?s2_u180v1z2
                            case s1_u180v1z2 => kernel_rfl
                            with_reducible refine AllReadyH.cons (o := ?s0_u180v1z2) (by simp only [List.getElem?_toArray, List.getElem?_cons_succ, List.getElem?_cons_zero]; exact rfl) (fun K hK => ?s3_u180v1z2) AllReadyH.nil
                            go_simp
                            refine (HSW.out (ps.set j (-1)) _ _ _ _ (HKK.out.hR.below hD) (HKK.out.hP.below hD) hq2).mono ?_
                            rw [HSN2.out.1]
                            rintro e w15 ⟨rfl, hb⟩
                            replace q0 := cell_on hb q0
                            replace q1 := cell_on hb q1
                            replace q2 := cell_on hb q2
                            replace q3 := cell_on hb q3
                            replace hD := bvia hD hb
                            replace hq2 := hq2.below hb
                            replace HCL := Lib.hid (fun k hk => cell_on hb (HCL.out k hk))
                            clear hb
                            go_wp2_with fail
                            with_reducible refine hK.out _ _ ?s1_u181v1z2 (fun hHeld => ?s2_u181v1z2)
                            case s1_u181v1z2 => exact ⟨q0, q1, q2, q3⟩
                            clear hK K
                            try simp only [Act.put, List.setIfInBounds_toArray, List.set_cons_zero, List.set_cons_succ]
                            with_reducible refine takeI2 (i := 38) (v := ?sv_u182v1z2) (oi := ?s0_u182v1z2) (by simp only [List.getElem?_toArray, List.getElem?_cons_succ, List.getElem?_cons_zero]; exact rfl) ?s1_u182v1z2 ?s2_u182v1z2 ?s3_u182v1z2 ?s4_u182v1z2 ?s5_u182v1z2 ?s6_u182v1z2 ?s7_u182v1z2
                            case s1_u182v1z2 | s2_u182v1z2 | s3_u182v1z2 => kernel_rfl
                            case s4_u182v1z2 => exact fun _ _ _ h => h
                            case s5_u182v1z2 => exact Or.inl ⟨rfl, by intro w hSw; (try dsimp only at hSw); go_simp; try with_reducible rfl⟩
                            case s6_u182v1z2 => assumption
                            try simp only [Act.put, List.setIfInBounds_toArray, List.set_cons_zero, List.set_cons_succ]
                            with_reducible refine takeI2 (i := 39) (v := ?sv_u183v1z2) (oi := ?s0_u183v1z2) (by simp only [List.getElem?_toArray, List.getElem?_cons_succ, List.getElem?_cons_zero]; exact rfl) ?s1_u183v1z2 ?s2_u183v1z2 ?s3_u183v1z2 ?s4_u183v1z2 ?s5_u183v1z2 ?s6_u183v1z2 ?s7_u183v1z2
                            case s1_u183v1z2 | s2_u183v1z2 | s3_u183v1z2 => kernel_rfl
                            case s4_u183v1z2 => exact fun _ _ _ h => h
                            case s5_u183v1z2 => exact Or.inl ⟨rfl, by intro w hSw; (try dsimp only at hSw); go_simp; try with_reducible rfl⟩
                            case s6_u183v1z2 => assumption
                            try simp only [Act.put, List.setIfInBounds_toArray, List.set_cons_zero, List.set_cons_succ]
                            with_reducible refine wpAnyH_done ?s1_u184v1z2 ?s2_u184v1z2 _
                            case s1_u184v1z2 => kernel_rfl
                            clear q0 q1 q2 q3 HSN2 hq2 hwx
                            have hE0 := Below.refl w15.heap.size w15
                            go_wp2_with (fail)
                            go_loopw [17] (fun i wr => ∃ t : Nat, t ≤ q ∧ i = .int .i64 t ∧ Below w15.heap.size w15 wr) (fun i _ => q - (intOf i).toNat)
                            case atStart => exact ⟨0, Nat.zero_le _, rfl, hE0⟩
                            case round =>
                             focus
                              clear hE0
                              obtain ⟨t2, ht2, rfl, hE⟩ := hrel
                              obtain ⟨wo6, hwo6⟩ : ∃ wo6 : World, wo6 = wr := ⟨_, rfl⟩
                              subst hwo6
                              by_cases htq : t2 < q
                              · have qt : (t2 : Int) < (q : Int) := by omega
                                have p0 := cell_on (bvia hD hE).drew (HKK.out.cH t2 htq)
                                have p1 := cell_on hE.drew (HCL.out t2 htq)
                                have hll := HLE.out t2
                                generalize f t2 = x2 at p0 hll
                                generalize f2 t2 = y2 at p1 hll
                                have hll2 : decide (x2 < y2) = false := decide_eq_false (by omega)
                                clear hll
                                go_wp2_with (fail)
                                with_reducible refine region_beg (n := 9) (S := (fun w => w.cell? ⟨bh, oi + t2, none⟩ = some (.int .i64 x2) ∧ w.cell? ⟨bL, oL + t2, none⟩ = some (.int .i64 y2))) ?b1_u130v1z2 ?b2_u130v1z2 ?b3_u130v1z2 (fun hHeld => ?b4_u130v1z2)
                                case b1_u130v1z2 => kernel_rfl
                                case b2_u130v1z2 => kernel_rfl
                                case b3_u130v1z2 => exact ⟨p0, p1⟩
                                with_reducible refine takeI2 (i := 0) (v := ?sv_u131v1z2) (oi := ?s0_u131v1z2) (by simp only [List.getElem?_toArray, List.getElem?_cons_succ, List.getElem?_cons_zero]; exact rfl) ?s1_u131v1z2 ?s2_u131v1z2 ?s3_u131v1z2 ?s4_u131v1z2 ?s5_u131v1z2 ?s6_u131v1z2 ?s7_u131v1z2
                                case s1_u131v1z2 | s2_u131v1z2 | s3_u131v1z2 => kernel_rfl
                                case s4_u131v1z2 => exact fun _ _ _ h => h
                                case s5_u131v1z2 => exact Or.inl ⟨rfl, by intro w hSw; (try dsimp only at hSw); go_simp; try with_reducible rfl⟩
                                case s6_u131v1z2 => assumption
                                try simp only [Act.put, List.setIfInBounds_toArray, List.set_cons_zero, List.set_cons_succ]
                                with_reducible refine takeI2 (i := 1) (v := ?sv_u132v1z2) (oi := ?s0_u132v1z2) (by simp only [List.getElem?_toArray, List.getElem?_cons_succ, List.getElem?_cons_zero]; exact rfl) ?s1_u132v1z2 ?s2_u132v1z2 ?s3_u132v1z2 ?s4_u132v1z2 ?s5_u132v1z2 ?s6_u132v1z2 ?s7_u132v1z2
                                case s1_u132v1z2 | s2_u132v1z2 | s3_u132v1z2 => kernel_rfl
                                case s4_u132v1z2 => exact fun _ _ _ h => h
                                case s5_u132v1z2 => exact Or.inl ⟨rfl, by intro w hSw; (try dsimp only at hSw); go_simp; try with_reducible rfl⟩
                                case s6_u132v1z2 => assumption
                                try simp only [Act.put, List.setIfInBounds_toArray, List.set_cons_zero, List.set_cons_succ]
                                with_reducible refine takeI2 (i := 2) (v := ?sv_u133v1z2) (oi := ?s0_u133v1z2) (by simp only [List.getElem?_toArray, List.getElem?_cons_succ, List.getElem?_cons_zero]; exact rfl) ?s1_u133v1z2 ?s2_u133v1z2 ?s3_u133v1z2 ?s4_u133v1z2 ?s5_u133v1z2 ?s6_u133v1z2 ?s7_u133v1z2
                                case s1_u133v1z2 | s2_u133v1z2 | s3_u133v1z2 => kernel_rfl
                                case s4_u133v1z2 => exact fun _ _ _ h => h
                                case s5_u133v1z2 => exact Or.inl ⟨rfl, by intro w hSw; (try dsimp only at hSw); go_simp; try with_reducible rfl⟩
                                case s6_u133v1z2 => assumption
                                try simp only [Act.put, List.setIfInBounds_toArray, List.set_cons_zero, List.set_cons_succ]
                                with_reducible refine takeI2 (i := 3) (v := ?sv_u134v1z2) (oi := ?s0_u134v1z2) (by simp only [List.getElem?_toArray, List.getElem?_cons_succ, List.getElem?_cons_zero]; exact rfl) ?s1_u134v1z2 ?s2_u134v1z2 ?s3_u134v1z2 ?s4_u134v1z2 ?s5_u134v1z2 ?s6_u134v1z2 ?s7_u134v1z2
                                case s1_u134v1z2 | s2_u134v1z2 | s3_u134v1z2 => kernel_rfl
                                case s4_u134v1z2 => exact fun _ _ _ h => h
                                case s5_u134v1z2 => exact Or.inl ⟨rfl, by intro w hSw; (try dsimp only at hSw); go_simp; try with_reducible rfl⟩
                                case s6_u134v1z2 => assumption
                                try simp only [Act.put, List.setIfInBounds_toArray, List.set_cons_zero, List.set_cons_succ]
                                with_reducible refine takeI2 (i := 4) (v := ?sv_u135v1z2) (oi := ?s0_u135v1z2) (by simp only [List.getElem?_toArray, List.getElem?_cons_succ, List.getElem?_cons_zero]; exact rfl) ?s1_u135v1z2 ?s2_u135v1z2 ?s3_u135v1z2 ?s4_u135v1z2 ?s5_u135v1z2 ?s6_u135v1z2 ?s7_u135v1z2
                                case s1_u135v1z2 | s2_u135v1z2 | s3_u135v1z2 => kernel_rfl
                                case s4_u135v1z2 => exact fun _ _ _ h => h
                                case s5_u135v1z2 => exact Or.inl ⟨rfl, by intro w hSw; (try dsimp only at hSw); go_simp; try with_reducible rfl⟩
                                case s6_u135v1z2 => assumption
                                try simp only [Act.put, List.setIfInBounds_toArray, List.set_cons_zero, List.set_cons_succ]
                                with_reducible refine takeI2 (i := 5) (v := ?sv_u136v1z2) (oi := ?s0_u136v1z2) (by simp only [List.getElem?_toArray, List.getElem?_cons_succ, List.getElem?_cons_zero]; exact rfl) ?s1_u136v1z2 ?s2_u136v1z2 ?s3_u136v1z2 ?s4_u136v1z2 ?s5_u136v1z2 ?s6_u136v1z2 ?s7_u136v1z2
                                case s1_u136v1z2 | s2_u136v1z2 | s3_u136v1z2 => kernel_rfl
                                case s4_u136v1z2 => exact fun _ _ _ h => h
                                case s5_u136v1z2 => exact Or.inl ⟨rfl, by intro w hSw; (try dsimp only at hSw); go_simp; try with_reducible rfl⟩
                                case s6_u136v1z2 => assumption
                                try simp only [Act.put, List.setIfInBounds_toArray, List.set_cons_zero, List.set_cons_succ]
                                with_reducible refine takeI2 (i := 6) (v := ?sv_u137v1z2) (oi := ?s0_u137v1z2) (by simp only [List.getElem?_toArray, List.getElem?_cons_succ, List.getElem?_cons_zero]; exact rfl) ?s1_u137v1z2 ?s2_u137v1z2 ?s3_u137v1z2 ?s4_u137v1z2 ?s5_u137v1z2 ?s6_u137v1z2 ?s7_u137v1z2
                                case s1_u137v1z2 | s2_u137v1z2 | s3_u137v1z2 => kernel_rfl
                                case s4_u137v1z2 => exact fun _ _ _ h => h
                                case s5_u137v1z2 => exact Or.inl ⟨rfl, by intro w hSw; (try dsimp only at hSw); go_simp; try with_reducible rfl⟩
                                case s6_u137v1z2 => assumption
                                try simp only [Act.put, List.setIfInBounds_toArray, List.set_cons_zero, List.set_cons_succ]
                                with_reducible refine takeI2 (i := 7) (v := ?sv_u138v1z2) (oi := ?s0_u138v1z2) (by simp only [List.getElem?_toArray, List.getElem?_cons_succ, List.getElem?_cons_zero]; exact rfl) ?s1_u138v1z2 ?s2_u138v1z2 ?s3_u138v1z2 ?s4_u138v1z2 ?s5_u138v1z2 ?s6_u138v1z2 ?s7_u138v1z2
                                case s1_u138v1z2 | s2_u138v1z2 | s3_u138v1z2 => kernel_rfl
                                case s4_u138v1z2 => exact fun _ _ _ h => h
                                case s5_u138v1z2 => exact Or.inl ⟨rfl, by intro w hSw; (try dsimp only at hSw); go_simp; try with_reducible rfl⟩
                                case s6_u138v1z2 => assumption
                                try simp only [Act.put, List.setIfInBounds_toArray, List.set_cons_zero, List.set_cons_succ]
                                with_reducible refine takeI2 (i := 8) (v := ?sv_u139v1z2) (oi := ?s0_u139v1z2) (by simp only [List.getElem?_toArray, List.getElem?_cons_succ, List.getElem?_cons_zero]; exact rfl) ?s1_u139v1z2 ?s2_u139v1z2 ?s3_u139v1z2 ?s4_u139v1z2 ?s5_u139v1z2 ?s6_u139v1z2 ?s7_u139v1z2
                                case s1_u139v1z2 | s2_u139v1z2 | s3_u139v1z2 => kernel_rfl
                                case s4_u139v1z2 => exact fun _ _ _ h => h
                                case s5_u139v1z2 => exact Or.inl ⟨rfl, by intro w hSw; (try dsimp only at hSw); go_simp; try with_reducible rfl⟩
                                case s6_u139v1z2 => assumption
                                try simp only [Act.put, List.setIfInBounds_toArray, List.set_cons_zero, List.set_cons_succ]
                                with_reducible refine wpAnyH_done ?s1_u140v1z2 ?s2_u140v1z2 _
                                case s1_u140v1z2 => kernel_rfl
                                go_wp2_with (fail)
                                exact ⟨⟨t2 + 1, by omega, by go_num, hE.drew⟩, by simp [intOf]; omega⟩
                              · go_wp2_with (fail)
                                exact ⟨⟨j + 1, by omega, by go_num, bvia hD hE⟩, by simp [intOf]; omega⟩
                          · obtain rfl : d = 0 := by omega
                            have hsn := HSN.out
                            rw [decide_eq_false hd1, decide_eq_true (rfl : (0 : Int) = 0)] at hsn
                            have HSN2 := Lib.hid hsn
                            clear hsn HSN hdn
                            go_wp2_with (fail)
                            obtain ⟨q0, q1⟩ := HKK.out.hX.below hD.drew
                            replace hD := hD.drew
                            replace hq2 := hq2.below (dr1 w13).below
                            replace HCL := Lib.hid (fun k hk => cell_on (dr1 w13).below (HCL.out k hk))
                            with_reducible refine region_beg (n := 40) (S := (fun w => w.cell? ⟨gx, 0, none⟩ = some (.int .i64 (q : Int)) ∧ w.cell? ⟨gx, 1, none⟩ = some (.slice al zs.length cl) ∧ w.cell? ⟨bh, oi + j, none⟩ = some (.int .i64 x) ∧ w.cell? ⟨bL, oL + j, none⟩ = some (.int .i64 y))) ?b1_u141v2z2 ?b2_u141v2z2 ?b3_u141v2z2 (fun hHeld => ?b4_u141v2z2)
                            case b1_u141v2z2 => kernel_rfl
                            case b2_u141v2z2 => kernel_rfl
                            case b3_u141v2z2 => exact ⟨q0, q1, q2, q3⟩
                            with_reducible refine takeI2 (i := 0) (v := ?sv_u142v2z2) (oi := ?s0_u142v2z2) (by simp only [List.getElem?_toArray, List.getElem?_cons_succ, List.getElem?_cons_zero]; exact rfl) ?s1_u142v2z2 ?s2_u142v2z2 ?s3_u142v2z2 ?s4_u142v2z2 ?s5_u142v2z2 ?s6_u142v2z2 ?s7_u142v2z2
                            case s1_u142v2z2 | s2_u142v2z2 | s3_u142v2z2 => kernel_rfl
                            case s4_u142v2z2 => exact fun _ _ _ h => h
                            case s5_u142v2z2 => exact Or.inl ⟨rfl, by intro w hSw; (try dsimp only at hSw); go_simp; try with_reducible rfl⟩
                            case s6_u142v2z2 => assumption
                            try simp only [Act.put, List.setIfInBounds_toArray, List.set_cons_zero, List.set_cons_succ]
                            with_reducible refine takeI2 (i := 1) (v := ?sv_u143v2z2) (oi := ?s0_u143v2z2) (by simp only [List.getElem?_toArray, List.getElem?_cons_succ, List.getElem?_cons_zero]; exact rfl) ?s1_u143v2z2 ?s2_u143v2z2 ?s3_u143v2z2 ?s4_u143v2z2 ?s5_u143v2z2 ?s6_u143v2z2 ?s7_u143v2z2
                            case s1_u143v2z2 | s2_u143v2z2 | s3_u143v2z2 => kernel_rfl
                            case s4_u143v2z2 => exact fun _ _ _ h => h
                            case s5_u143v2z2 => exact Or.inl ⟨rfl, by intro w hSw; (try dsimp only at hSw); go_simp; try with_reducible rfl⟩
                            case s6_u143v2z2 => assumption
                            try simp only [Act.put, List.setIfInBounds_toArray, List.set_cons_zero, List.set_cons_succ]
                            with_reducible refine takeI2 (i := 2) (v := ?sv_u144v2z2) (oi := ?s0_u144v2z2) (by simp only [List.getElem?_toArray, List.getElem?_cons_succ, List.getElem?_cons_zero]; exact rfl) ?s1_u144v2z2 ?s2_u144v2z2 ?s3_u144v2z2 ?s4_u144v2z2 ?s5_u144v2z2 ?s6_u144v2z2 ?s7_u144v2z2
                            case s1_u144v2z2 | s2_u144v2z2 | s3_u144v2z2 => kernel_rfl
                            case s4_u144v2z2 => exact fun _ _ _ h => h
                            case s5_u144v2z2 => exact Or.inl ⟨rfl, by intro w hSw; (try dsimp only at hSw); go_simp; try with_reducible rfl⟩
                            case s6_u144v2z2 => assumption
                            try simp only [Act.put, List.setIfInBounds_toArray, List.set_cons_zero, List.set_cons_succ]
                            with_reducible refine takeI2 (i := 3) (v := ?sv_u145v2z2) (oi := ?s0_u145v2z2) (by simp only [List.getElem?_toArray, List.getElem?_cons_succ, List.getElem?_cons_zero]; exact rfl) ?s1_u145v2z2 ?s2_u145v2z2 ?s3_u145v2z2 ?s4_u145v2z2 ?s5_u145v2z2 ?s6_u145v2z2 ?s7_u145v2z2
                            case s1_u145v2z2 | s2_u145v2z2 | s3_u145v2z2 => kernel_rfl
                            case s4_u145v2z2 => exact fun _ _ _ h => h
                            case s5_u145v2z2 => exact Or.inl ⟨rfl, by intro w hSw; (try dsimp only at hSw); go_simp; try with_reducible rfl⟩
                            case s6_u145v2z2 => assumption
                            try simp only [Act.put, List.setIfInBounds_toArray, List.set_cons_zero, List.set_cons_succ]
                            with_reducible refine takeI2 (i := 4) (v := ?sv_u146v2z2) (oi := ?s0_u146v2z2) (by simp only [List.getElem?_toArray, List.getElem?_cons_succ, List.getElem?_cons_zero]; exact rfl) ?s1_u146v2z2 ?s2_u146v2z2 ?s3_u146v2z2 ?s4_u146v2z2 ?s5_u146v2z2 ?s6_u146v2z2 ?s7_u146v2z2
                            case s1_u146v2z2 | s2_u146v2z2 | s3_u146v2z2 => kernel_rfl
                            case s4_u146v2z2 => exact fun _ _ _ h => h
                            case s5_u146v2z2 => exact Or.inl ⟨rfl, by intro w hSw; (try dsimp only at hSw); go_simp; try with_reducible rfl⟩
                            case s6_u146v2z2 => assumption
                            try simp only [Act.put, List.setIfInBounds_toArray, List.set_cons_zero, List.set_cons_succ]
                            with_reducible refine takeI2 (i := 5) (v := ?sv_u147v2z2) (oi := ?s0_u147v2z2) (by simp only [List.getElem?_toArray, List.getElem?_cons_succ, List.getElem?_cons_zero]; exact rfl) ?s1_u147v2z2 ?s2_u147v2z2 ?s3_u147v2z2 ?s4_u147v2z2 ?s5_u147v2z2 ?s6_u147v2z2 ?s7_u147v2z2
                            case s1_u147v2z2 | s2_u147v2z2 | s3_u147v2z2 => kernel_rfl
                            case s4_u147v2z2 => exact fun _ _ _ h => h
                            case s5_u147v2z2 => exact Or.inl ⟨rfl, by intro w hSw; (try dsimp only at hSw); go_simp; try with_reducible rfl⟩
                            case s6_u147v2z2 => assumption
                            try simp only [Act.put, List.setIfInBounds_toArray, List.set_cons_zero, List.set_cons_succ]
                            with_reducible refine takeI2 (i := 6) (v := ?sv_u148v2z2) (oi := ?s0_u148v2z2) (by simp only [List.getElem?_toArray, List.getElem?_cons_succ, List.getElem?_cons_zero]; exact rfl) ?s1_u148v2z2 ?s2_u148v2z2 ?s3_u148v2z2 ?s4_u148v2z2 ?s5_u148v2z2 ?s6_u148v2z2 ?s7_u148v2z2
                            case s1_u148v2z2 | s2_u148v2z2 | s3_u148v2z2 => kernel_rfl
                            case s4_u148v2z2 => exact fun _ _ _ h => h
                            case s5_u148v2z2 => exact Or.inl ⟨rfl, by intro w hSw; (try dsimp only at hSw); go_simp; try with_reducible rfl⟩
                            case s6_u148v2z2 => assumption
                            try simp only [Act.put, List.setIfInBounds_toArray, List.set_cons_zero, List.set_cons_succ]
                            with_reducible refine takeI2 (i := 7) (v := ?sv_u149v2z2) (oi := ?s0_u149v2z2) (by simp only [List.getElem?_toArray, List.getElem?_cons_succ, List.getElem?_cons_zero]; exact rfl) ?s1_u149v2z2 ?s2_u149v2z2 ?s3_u149v2z2 ?s4_u149v2z2 ?s5_u149v2z2 ?s6_u149v2z2 ?s7_u149v2z2
                            case s1_u149v2z2 | s2_u149v2z2 | s3_u149v2z2 => kernel_rfl
                            case s4_u149v2z2 => exact fun _ _ _ h => h
                            case s5_u149v2z2 => exact Or.inl ⟨rfl, by intro w hSw; (try dsimp only at hSw); go_simp; try with_reducible rfl⟩
                            case s6_u149v2z2 => assumption
                            try simp only [Act.put, List.setIfInBounds_toArray, List.set_cons_zero, List.set_cons_succ]
                            with_reducible refine takeI2 (i := 8) (v := ?sv_u150v2z2) (oi := ?s0_u150v2z2) (by simp only [List.getElem?_toArray, List.getElem?_cons_succ, List.getElem?_cons_zero]; exact rfl) ?s1_u150v2z2 ?s2_u150v2z2 ?s3_u150v2z2 ?s4_u150v2z2 ?s5_u150v2z2 ?s6_u150v2z2 ?s7_u150v2z2
                            case s1_u150v2z2 | s2_u150v2z2 | s3_u150v2z2 => kernel_rfl
                            case s4_u150v2z2 => exact fun _ _ _ h => h
                            case s5_u150v2z2 => exact Or.inl ⟨rfl, by intro w hSw; (try dsimp only at hSw); go_simp; try with_reducible rfl⟩
                            case s6_u150v2z2 => assumption
                            try simp only [Act.put, List.setIfInBounds_toArray, List.set_cons_zero, List.set_cons_succ]
                            with_reducible refine takeI2 (i := 9) (v := ?sv_u151v2z2) (oi := ?s0_u151v2z2) (by simp only [List.getElem?_toArray, List.getElem?_cons_succ, List.getElem?_cons_zero]; exact rfl) ?s1_u151v2z2 ?s2_u151v2z2 ?s3_u151v2z2 ?s4_u151v2z2 ?s5_u151v2z2 ?s6_u151v2z2 ?s7_u151v2z2
                            case s1_u151v2z2 | s2_u151v2z2 | s3_u151v2z2 => kernel_rfl
                            case s4_u151v2z2 => exact fun _ _ _ h => h
                            case s5_u151v2z2 => exact Or.inl ⟨rfl, by intro w hSw; (try dsimp only at hSw); go_simp; try with_reducible rfl⟩
                            case s6_u151v2z2 => assumption
                            try simp only [Act.put, List.setIfInBounds_toArray, List.set_cons_zero, List.set_cons_succ]
                            with_reducible refine takeI2 (i := 10) (v := ?sv_u152v2z2) (oi := ?s0_u152v2z2) (by simp only [List.getElem?_toArray, List.getElem?_cons_succ, List.getElem?_cons_zero]; exact rfl) ?s1_u152v2z2 ?s2_u152v2z2 ?s3_u152v2z2 ?s4_u152v2z2 ?s5_u152v2z2 ?s6_u152v2z2 ?s7_u152v2z2
                            case s1_u152v2z2 | s2_u152v2z2 | s3_u152v2z2 => kernel_rfl
                            case s4_u152v2z2 => exact fun _ _ _ h => h
                            case s5_u152v2z2 => exact Or.inl ⟨rfl, by intro w hSw; (try dsimp only at hSw); go_simp; try with_reducible rfl⟩
                            case s6_u152v2z2 => assumption
                            try simp only [Act.put, List.setIfInBounds_toArray, List.set_cons_zero, List.set_cons_succ]
                            with_reducible refine takeI2 (i := 11) (v := ?sv_u153v2z2) (oi := ?s0_u153v2z2) (by simp only [List.getElem?_toArray, List.getElem?_cons_succ, List.getElem?_cons_zero]; exact rfl) ?s1_u153v2z2 ?s2_u153v2z2 ?s3_u153v2z2 ?s4_u153v2z2 ?s5_u153v2z2 ?s6_u153v2z2 ?s7_u153v2z2
                            case s1_u153v2z2 | s2_u153v2z2 | s3_u153v2z2 => kernel_rfl
                            case s4_u153v2z2 => exact fun _ _ _ h => h
                            case s5_u153v2z2 => exact Or.inl ⟨rfl, by intro w hSw; (try dsimp only at hSw); go_simp; try with_reducible rfl⟩
                            case s6_u153v2z2 => assumption
                            try simp only [Act.put, List.setIfInBounds_toArray, List.set_cons_zero, List.set_cons_succ]
                            with_reducible refine takeI2 (i := 12) (v := ?sv_u154v2z2) (oi := ?s0_u154v2z2) (by simp only [List.getElem?_toArray, List.getElem?_cons_succ, List.getElem?_cons_zero]; exact rfl) ?s1_u154v2z2 ?s2_u154v2z2 ?s3_u154v2z2 ?s4_u154v2z2 ?s5_u154v2z2 ?s6_u154v2z2 ?s7_u154v2z2
                            case s1_u154v2z2 | s2_u154v2z2 | s3_u154v2z2 => kernel_rfl
                            case s4_u154v2z2 => exact fun _ _ _ h => h
                            case s5_u154v2z2 => exact Or.inl ⟨rfl, by intro w hSw; (try dsimp only at hSw); go_simp; try with_reducible rfl⟩
                            case s6_u154v2z2 => assumption
                            try simp only [Act.put, List.setIfInBounds_toArray, List.set_cons_zero, List.set_cons_succ]
                            with_reducible refine takeI2 (i := 13) (v := ?sv_u155v2z2) (oi := ?s0_u155v2z2) (by simp only [List.getElem?_toArray, List.getElem?_cons_succ, List.getElem?_cons_zero]; exact rfl) ?s1_u155v2z2 ?s2_u155v2z2 ?s3_u155v2z2 ?s4_u155v2z2 ?s5_u155v2z2 ?s6_u155v2z2 ?s7_u155v2z2
                            case s1_u155v2z2 | s2_u155v2z2 | s3_u155v2z2 => kernel_rfl
                            case s4_u155v2z2 => exact fun _ _ _ h => h
                            case s5_u155v2z2 => exact Or.inl ⟨rfl, by intro w hSw; (try dsimp only at hSw); go_simp; try with_reducible rfl⟩
                            case s6_u155v2z2 => assumption
                            try simp only [Act.put, List.setIfInBounds_toArray, List.set_cons_zero, List.set_cons_succ]
                            with_reducible refine takeI2 (i := 14) (v := ?sv_u156v2z2) (oi := ?s0_u156v2z2) (by simp only [List.getElem?_toArray, List.getElem?_cons_succ, List.getElem?_cons_zero]; exact rfl) ?s1_u156v2z2 ?s2_u156v2z2 ?s3_u156v2z2 ?s4_u156v2z2 ?s5_u156v2z2 ?s6_u156v2z2 ?s7_u156v2z2
                            case s1_u156v2z2 | s2_u156v2z2 | s3_u156v2z2 => kernel_rfl
                            case s4_u156v2z2 => exact fun _ _ _ h => h
                            case s5_u156v2z2 => exact Or.inl ⟨rfl, by intro w hSw; (try dsimp only at hSw); go_simp; try with_reducible rfl⟩
                            case s6_u156v2z2 => assumption
                            try simp only [Act.put, List.setIfInBounds_toArray, List.set_cons_zero, List.set_cons_succ]
                            with_reducible refine takeI2 (i := 15) (v := ?sv_u157v2z2) (oi := ?s0_u157v2z2) (by simp only [List.getElem?_toArray, List.getElem?_cons_succ, List.getElem?_cons_zero]; exact rfl) ?s1_u157v2z2 ?s2_u157v2z2 ?s3_u157v2z2 ?s4_u157v2z2 ?s5_u157v2z2 ?s6_u157v2z2 ?s7_u157v2z2
                            case s1_u157v2z2 | s2_u157v2z2 | s3_u157v2z2 => kernel_rfl
                            case s4_u157v2z2 => exact fun _ _ _ h => h
                            case s5_u157v2z2 => exact Or.inl ⟨rfl, by intro w hSw; (try dsimp only at hSw); go_simp; try with_reducible rfl⟩
                            case s6_u157v2z2 => assumption
                            try simp only [Act.put, List.setIfInBounds_toArray, List.set_cons_zero, List.set_cons_succ]
                            with_reducible refine takeI2 (i := 16) (v := ?sv_u158v2z2) (oi := ?s0_u158v2z2) (by simp only [List.getElem?_toArray, List.getElem?_cons_succ, List.getElem?_cons_zero]; exact rfl) ?s1_u158v2z2 ?s2_u158v2z2 ?s3_u158v2z2 ?s4_u158v2z2 ?s5_u158v2z2 ?s6_u158v2z2 ?s7_u158v2z2
                            case s1_u158v2z2 | s2_u158v2z2 | s3_u158v2z2 => kernel_rfl
                            case s4_u158v2z2 => exact fun _ _ _ h => h
                            case s5_u158v2z2 => exact Or.inl ⟨rfl, by intro w hSw; (try dsimp only at hSw); go_simp; try with_reducible rfl⟩
                            case s6_u158v2z2 => assumption
                            try simp only [Act.put, List.setIfInBounds_toArray, List.set_cons_zero, List.set_cons_succ]
                            with_reducible refine takeI2 (i := 17) (v := ?sv_u159v2z2) (oi := ?s0_u159v2z2) (by simp only [List.getElem?_toArray, List.getElem?_cons_succ, List.getElem?_cons_zero]; exact rfl) ?s1_u159v2z2 ?s2_u159v2z2 ?s3_u159v2z2 ?s4_u159v2z2 ?s5_u159v2z2 ?s6_u159v2z2 ?s7_u159v2z2
                            case s1_u159v2z2 | s2_u159v2z2 | s3_u159v2z2 => kernel_rfl
                            case s4_u159v2z2 => exact fun _ _ _ h => h
                            case s5_u159v2z2 => exact Or.inl ⟨rfl, by intro w hSw; (try dsimp only at hSw); go_simp; try with_reducible rfl⟩
                            case s6_u159v2z2 => assumption
                            try simp only [Act.put, List.setIfInBounds_toArray, List.set_cons_zero, List.set_cons_succ]
                            with_reducible refine takeI2 (i := 18) (v := ?sv_u160v2z2) (oi := ?s0_u160v2z2) (by simp only [List.getElem?_toArray, List.getElem?_cons_succ, List.getElem?_cons_zero]; exact rfl) ?s1_u160v2z2 ?s2_u160v2z2 ?s3_u160v2z2 ?s4_u160v2z2 ?s5_u160v2z2 ?s6_u160v2z2 ?s7_u160v2z2
                            case s1_u160v2z2 | s2_u160v2z2 | s3_u160v2z2 => kernel_rfl
                            case s4_u160v2z2 => exact fun _ _ _ h => h
                            case s5_u160v2z2 => exact Or.inl ⟨rfl, by intro w hSw; (try dsimp only at hSw); go_simp; try with_reducible rfl⟩
                            case s6_u160v2z2 => assumption
                            try simp only [Act.put, List.setIfInBounds_toArray, List.set_cons_zero, List.set_cons_succ]
                            with_reducible refine takeI2 (i := 19) (v := ?sv_u161v2z2) (oi := ?s0_u161v2z2) (by simp only [List.getElem?_toArray, List.getElem?_cons_succ, List.getElem?_cons_zero]; exact rfl) ?s1_u161v2z2 ?s2_u161v2z2 ?s3_u161v2z2 ?s4_u161v2z2 ?s5_u161v2z2 ?s6_u161v2z2 ?s7_u161v2z2
                            case s1_u161v2z2 | s2_u161v2z2 | s3_u161v2z2 => kernel_rfl
                            case s4_u161v2z2 => exact fun _ _ _ h => h
                            case s5_u161v2z2 => exact Or.inl ⟨rfl, by intro w hSw; (try dsimp only at hSw); go_simp; try with_reducible rfl⟩
                            case s6_u161v2z2 => assumption
                            try simp only [Act.put, List.setIfInBounds_toArray, List.set_cons_zero, List.set_cons_succ]
                            with_reducible refine takeI2 (i := 20) (v := ?sv_u162v2z2) (oi := ?s0_u162v2z2) (by simp only [List.getElem?_toArray, List.getElem?_cons_succ, List.getElem?_cons_zero]; exact rfl) ?s1_u162v2z2 ?s2_u162v2z2 ?s3_u162v2z2 ?s4_u162v2z2 ?s5_u162v2z2 ?s6_u162v2z2 ?s7_u162v2z2
                            case s1_u162v2z2 | s2_u162v2z2 | s3_u162v2z2 => kernel_rfl
                            case s4_u162v2z2 => exact fun _ _ _ h => h
                            case s5_u162v2z2 => exact Or.inl ⟨rfl, by intro w hSw; (try dsimp only at hSw); go_simp; try with_reducible rfl⟩
                            case s6_u162v2z2 => assumption
                            try simp only [Act.put, List.setIfInBounds_toArray, List.set_cons_zero, List.set_cons_succ]
                            with_reducible refine takeI2 (i := 21) (v := ?sv_u163v2z2) (oi := ?s0_u163v2z2) (by simp only [List.getElem?_toArray, List.getElem?_cons_succ, List.getElem?_cons_zero]; exact rfl) ?s1_u163v2z2 ?s2_u163v2z2 ?s3_u163v2z2 ?s4_u163v2z2 ?s5_u163v2z2 ?s6_u163v2z2 ?s7_u163v2z2
                            case s1_u163v2z2 | s2_u163v2z2 | s3_u163v2z2 => kernel_rfl
                            case s4_u163v2z2 => exact fun _ _ _ h => h
                            case s5_u163v2z2 => exact Or.inl ⟨rfl, by intro w hSw; (try dsimp only at hSw); go_simp; try with_reducible rfl⟩
                            case s6_u163v2z2 => assumption
                            try simp only [Act.put, List.setIfInBounds_toArray, List.set_cons_zero, List.set_cons_succ]
                            with_reducible refine takeI2 (i := 22) (v := ?sv_u164v2z2) (oi := ?s0_u164v2z2) (by simp only [List.getElem?_toArray, List.getElem?_cons_succ, List.getElem?_cons_zero]; exact rfl) ?s1_u164v2z2 ?s2_u164v2z2 ?s3_u164v2z2 ?s4_u164v2z2 ?s5_u164v2z2 ?s6_u164v2z2 ?s7_u164v2z2
                            case s1_u164v2z2 | s2_u164v2z2 | s3_u164v2z2 => kernel_rfl
                            case s4_u164v2z2 => exact fun _ _ _ h => h
                            case s5_u164v2z2 => exact Or.inl ⟨rfl, by intro w hSw; (try dsimp only at hSw); go_simp; try with_reducible rfl⟩
                            case s6_u164v2z2 => assumption
                            try simp only [Act.put, List.setIfInBounds_toArray, List.set_cons_zero, List.set_cons_succ]
                            with_reducible refine takeI2 (i := 23) (v := ?sv_u165v2z2) (oi := ?s0_u165v2z2) (by simp only [List.getElem?_toArray, List.getElem?_cons_succ, List.getElem?_cons_zero]; exact rfl) ?s1_u165v2z2 ?s2_u165v2z2 ?s3_u165v2z2 ?s4_u165v2z2 ?s5_u165v2z2 ?s6_u165v2z2 ?s7_u165v2z2
                            case s1_u165v2z2 | s2_u165v2z2 | s3_u165v2z2 => kernel_rfl
                            case s4_u165v2z2 => exact fun _ _ _ h => h
                            case s5_u165v2z2 => exact Or.inl ⟨rfl, by intro w hSw; (try dsimp only at hSw); go_simp; try with_reducible rfl⟩
                            case s6_u165v2z2 => assumption
                            try simp only [Act.put, List.setIfInBounds_toArray, List.set_cons_zero, List.set_cons_succ]
                            with_reducible refine takeI2 (i := 24) (v := ?sv_u166v2z2) (oi := ?s0_u166v2z2) (by simp only [List.getElem?_toArray, List.getElem?_cons_succ, List.getElem?_cons_zero]; exact rfl) ?s1_u166v2z2 ?s2_u166v2z2 ?s3_u166v2z2 ?s4_u166v2z2 ?s5_u166v2z2 ?s6_u166v2z2 ?s7_u166v2z2
                            case s1_u166v2z2 | s2_u166v2z2 | s3_u166v2z2 => kernel_rfl
                            case s4_u166v2z2 => exact fun _ _ _ h => h
                            case s5_u166v2z2 => exact Or.inl ⟨rfl, by intro w hSw; (try dsimp only at hSw); go_simp; try with_reducible rfl⟩
                            case s6_u166v2z2 => assumption
                            try simp only [Act.put, List.setIfInBounds_toArray, List.set_cons_zero, List.set_cons_succ]
                            with_reducible refine takeI2 (i := 25) (v := ?sv_u167v2z2) (oi := ?s0_u167v2z2) (by simp only [List.getElem?_toArray, List.getElem?_cons_succ, List.getElem?_cons_zero]; exact rfl) ?s1_u167v2z2 ?s2_u167v2z2 ?s3_u167v2z2 ?s4_u167v2z2 ?s5_u167v2z2 ?s6_u167v2z2 ?s7_u167v2z2
                            case s1_u167v2z2 | s2_u167v2z2 | s3_u167v2z2 => kernel_rfl
                            case s4_u167v2z2 => exact fun _ _ _ h => h
                            case s5_u167v2z2 => exact Or.inl ⟨rfl, by intro w hSw; (try dsimp only at hSw); go_simp; try with_reducible rfl⟩
                            case s6_u167v2z2 => assumption
                            try simp only [Act.put, List.setIfInBounds_toArray, List.set_cons_zero, List.set_cons_succ]
                            with_reducible refine takeI2 (i := 27) (v := ?sv_u168v2z2) (oi := ?s0_u168v2z2) (by simp only [List.getElem?_toArray, List.getElem?_cons_succ, List.getElem?_cons_zero]; exact rfl) ?s1_u168v2z2 ?s2_u168v2z2 ?s3_u168v2z2 ?s4_u168v2z2 ?s5_u168v2z2 ?s6_u168v2z2 ?s7_u168v2z2
                            case s1_u168v2z2 | s2_u168v2z2 | s3_u168v2z2 => kernel_rfl
                            case s4_u168v2z2 => exact fun _ _ _ h => h
                            case s5_u168v2z2 => exact Or.inl ⟨rfl, by intro w hSw; (try dsimp only at hSw); go_simp; try with_reducible rfl⟩
                            case s6_u168v2z2 => assumption
                            try simp only [Act.put, List.setIfInBounds_toArray, List.set_cons_zero, List.set_cons_succ]
                            with_reducible refine takeI2 (i := 28) (v := ?sv_u169v2z2) (oi := ?s0_u169v2z2) (by simp only [List.getElem?_toArray, List.getElem?_cons_succ, List.getElem?_cons_zero]; exact rfl) ?s1_u169v2z2 ?s2_u169v2z2 ?s3_u169v2z2 ?s4_u169v2z2 ?s5_u169v2z2 ?s6_u169v2z2 ?s7_u169v2z2
                            case s1_u169v2z2 | s2_u169v2z2 | s3_u169v2z2 => kernel_rfl
                            case s4_u169v2z2 => exact fun _ _ _ h => h
                            case s5_u169v2z2 => exact Or.inl ⟨rfl, by intro w hSw; (try dsimp only at hSw); go_simp; try with_reducible rfl⟩
                            case s6_u169v2z2 => assumption
                            try simp only [Act.put, List.setIfInBounds_toArray, List.set_cons_zero, List.set_cons_succ]
                            with_reducible refine wpAnyH_ready (rs := [26]) ?s1_u170v2z2 one_ne ?s2_u170v2z2
                            case s1_u170v2z2 => kernel_rfl
                            with_reducible refine AllReadyH.cons (o := ?s0_u170v2z2) (by simp only [List.getElem?_toArray, List.getElem?_cons_succ, List.getElem?_cons_zero]; exact rfl) (fun K hK => ?s3_u170v2z2) AllReadyH.nil
                            go_simp
                            refine (HNW.out ps _ _ _ _ (HKK.out.hR.below hD) (HKK.out.hP.below hD)).mono ?_
                            rw [HSN2.out.2]
                            rintro e w14 ⟨rfl, hb⟩
                            replace q0 := cell_on hb q0
                            replace q1 := cell_on hb q1
                            replace q2 := cell_on hb q2
                            replace q3 := cell_on hb q3
                            replace hD := bvia hD hb
                            replace hq2 := hq2.below hb
                            replace HCL := Lib.hid (fun k hk => cell_on hb (HCL.out k hk))
                            clear hb
                            go_wp2_with fail
                            with_reducible refine hK.out _ _ ?s1_u171v2z2 (fun hHeld => ?s2_u171v2z2)
                            case s1_u171v2z2 => exact ⟨q0, q1, q2, q3⟩
                            clear hK K
                            try simp only [Act.put, List.setIfInBounds_toArray, List.set_cons_zero, List.set_cons_succ]
                            with_reducible refine takeI2 (i := 29) (v := ?sv_u172v2z2) (oi := ?s0_u172v2z2) (by simp only [List.getElem?_toArray, List.getElem?_cons_succ, List.getElem?_cons_zero]; exact rfl) ?s1_u172v2z2 ?s2_u172v2z2 ?s3_u172v2z2 ?s4_u172v2z2 ?s5_u172v2z2 ?s6_u172v2z2 ?s7_u172v2z2
                            case s1_u172v2z2 | s2_u172v2z2 | s3_u172v2z2 => kernel_rfl
                            case s4_u172v2z2 => exact fun _ _ _ h => h
                            case s5_u172v2z2 => exact Or.inl ⟨rfl, by intro w hSw; (try dsimp only at hSw); go_simp; try with_reducible rfl⟩
                            case s6_u172v2z2 => assumption
                            try simp only [Act.put, List.setIfInBounds_toArray, List.set_cons_zero, List.set_cons_succ]
                            with_reducible refine takeI2 (i := 30) (v := ?sv_u173v2z2) (oi := ?s0_u173v2z2) (by simp only [List.getElem?_toArray, List.getElem?_cons_succ, List.getElem?_cons_zero]; exact rfl) ?s1_u173v2z2 ?s2_u173v2z2 ?s3_u173v2z2 ?s4_u173v2z2 ?s5_u173v2z2 ?s6_u173v2z2 ?s7_u173v2z2
                            case s1_u173v2z2 | s2_u173v2z2 | s3_u173v2z2 => kernel_rfl
                            case s4_u173v2z2 => exact fun _ _ _ h => h
                            case s5_u173v2z2 => exact Or.inl ⟨rfl, by intro w hSw; (try dsimp only at hSw); go_simp; try with_reducible rfl⟩
                            case s6_u173v2z2 => assumption
                            try simp only [Act.put, List.setIfInBounds_toArray, List.set_cons_zero, List.set_cons_succ]
                            with_reducible refine takeI2 (i := 31) (v := ?sv_u174v2z2) (oi := ?s0_u174v2z2) (by simp only [List.getElem?_toArray, List.getElem?_cons_succ, List.getElem?_cons_zero]; exact rfl) ?s1_u174v2z2 ?s2_u174v2z2 ?s3_u174v2z2 ?s4_u174v2z2 ?s5_u174v2z2 ?s6_u174v2z2 ?s7_u174v2z2
                            case s1_u174v2z2 | s2_u174v2z2 | s3_u174v2z2 => kernel_rfl
                            case s4_u174v2z2 => exact fun _ _ _ h => h
                            case s5_u174v2z2 => exact Or.inl ⟨rfl, by intro w hSw; (try dsimp only at hSw); go_simp; try with_reducible rfl⟩
                            case s6_u174v2z2 => assumption
                            try simp only [Act.put, List.setIfInBounds_toArray, List.set_cons_zero, List.set_cons_succ]
                            with_reducible refine takeI2 (i := 32) (v := ?sv_u175v2z2) (oi := ?s0_u175v2z2) (by simp only [List.getElem?_toArray, List.getElem?_cons_succ, List.getElem?_cons_zero]; exact rfl) ?s1_u175v2z2 ?s2_u175v2z2 ?s3_u175v2z2 ?s4_u175v2z2 ?s5_u175v2z2 ?s6_u175v2z2 ?s7_u175v2z2
                            case s1_u175v2z2 | s2_u175v2z2 | s3_u175v2z2 => kernel_rfl
                            case s4_u175v2z2 => exact fun _ _ _ h => h
                            case s5_u175v2z2 => exact Or.inl ⟨rfl, by intro w hSw; (try dsimp only at hSw); go_simp; try with_reducible rfl⟩
                            case s6_u175v2z2 => assumption
                            try simp only [Act.put, List.setIfInBounds_toArray, List.set_cons_zero, List.set_cons_succ]
                            with_reducible refine takeI2 (i := 33) (v := ?sv_u176v2z2) (oi := ?s0_u176v2z2) (by simp only [List.getElem?_toArray, List.getElem?_cons_succ, List.getElem?_cons_zero]; exact rfl) ?s1_u176v2z2 ?s2_u176v2z2 ?s3_u176v2z2 ?s4_u176v2z2 ?s5_u176v2z2 ?s6_u176v2z2 ?s7_u176v2z2
                            case s1_u176v2z2 | s2_u176v2z2 | s3_u176v2z2 => kernel_rfl
                            case s4_u176v2z2 => exact fun _ _ _ h => h
                            case s5_u176v2z2 => exact Or.inl ⟨rfl, by intro w hSw; (try dsimp only at hSw); go_simp; try with_reducible rfl⟩
                            case s6_u176v2z2 => assumption
                            try simp only [Act.put, List.setIfInBounds_toArray, List.set_cons_zero, List.set_cons_succ]
                            with_reducible refine takeI2 (i := 34) (v := ?sv_u177v2z2) (oi := ?s0_u177v2z2) (by simp only [List.getElem?_toArray, List.getElem?_cons_succ, List.getElem?_cons_zero]; exact rfl) ?s1_u177v2z2 ?s2_u177v2z2 ?s3_u177v2z2 ?s4_u177v2z2 ?s5_u177v2z2 ?s6_u177v2z2 ?s7_u177v2z2
                            case s1_u177v2z2 | s2_u177v2z2 | s3_u177v2z2 => kernel_rfl
                            case s4_u177v2z2 => exact fun _ _ _ h => h
                            case s5_u177v2z2 => exact Or.inl ⟨rfl, by intro w hSw; (try dsimp only at hSw); go_simp; try with_reducible rfl⟩
                            case s6_u177v2z2 => assumption
                            try simp only [Act.put, List.setIfInBounds_toArray, List.set_cons_zero, List.set_cons_succ]
                            with_reducible refine takeI2 (i := 36) (v := ?sv_u178v2z2) (oi := ?s0_u178v2z2) (by simp only [List.getElem?_toArray, List.getElem?_cons_succ, List.getElem?_cons_zero]; exact rfl) ?s1_u178v2z2 ?s2_u178v2z2 ?s3_u178v2z2 ?s4_u178v2z2 ?s5_u178v2z2 ?s6_u178v2z2 ?s7_u178v2z2
                            case s1_u178v2z2 | s2_u178v2z2 | s3_u178v2z2 => kernel_rfl
                            case s4_u178v2z2 => exact fun _ _ _ h => h
                            case s5_u178v2z2 => exact Or.inl ⟨rfl, by intro w hSw; (try dsimp only at hSw); go_simp; try with_reducible rfl⟩
                            case s6_u178v2z2 => assumption
                            try simp only [Act.put, List.setIfInBounds_toArray, List.set_cons_zero, List.set_cons_succ]
                            with_reducible refine takeI2 (i := 37) (v := ?sv_u179v2z2) (oi := ?s0_u179v2z2) (by simp only [List.getElem?_toArray, List.getElem?_cons_succ, List.getElem?_cons_zero]; exact rfl) ?s1_u179v2z2 ?s2_u179v2z2 ?s3_u179v2z2 ?s4_u179v2z2 ?s5_u179v2z2 ?s6_u179v2z2 ?s7_u179v2z2
                            case s1_u179v2z2 | s2_u179v2z2 | s3_u179v2z2 => kernel_rfl
                            case s4_u179v2z2 => exact fun _ _ _ h => h
                            case s5_u179v2z2 => exact Or.inl ⟨rfl, by intro w hSw; (try dsimp only at hSw); go_simp; try with_reducible rfl⟩
                            case s6_u179v2z2 => assumption
                            try simp only [Act.put, List.setIfInBounds_toArray, List.set_cons_zero, List.set_cons_succ]
                            with_reducible refine wpAnyH_ready (rs := [35]) ?s1_u180v2z2 one_ne ?s2_u180v2z2
                            case s1_u180v2z2 => kernel_rfl
                            with_reducible refine AllReadyH.cons (o := ?s0_u180v2z2) (by simp only [List.getElem?_toArray, List.getElem?_cons_succ, List.getElem?_cons_zero]; exact rfl) (fun K hK => ?s3_u180v2z2) AllReadyH.nil
                            go_simp
                            refine (HSW.out (ps.set j (-1)) _ _ _ _ (HKK.out.hR.below hD) (HKK.out.hP.below hD) hq2).mono ?_
                            rw [HSN2.out.1]
                            rintro e w15 ⟨rfl, hb⟩
                            replace q0 := cell_on hb q0
                            replace q1 := cell_on hb q1
                            replace q2 := cell_on hb q2
                            replace q3 := cell_on hb q3
                            replace hD := bvia hD hb
                            replace hq2 := hq2.below hb
                            replace HCL := Lib.hid (fun k hk => cell_on hb (HCL.out k hk))
                            clear hb
                            go_wp2_with fail
                            with_reducible refine hK.out _ _ ?s1_u181v2z2 (fun hHeld => ?s2_u181v2z2)
                            case s1_u181v2z2 => exact ⟨q0, q1, q2, q3⟩
                            clear hK K
                            try simp only [Act.put, List.setIfInBounds_toArray, List.set_cons_zero, List.set_cons_succ]
                            with_reducible refine takeI2 (i := 38) (v := ?sv_u182v2z2) (oi := ?s0_u182v2z2) (by simp only [List.getElem?_toArray, List.getElem?_cons_succ, List.getElem?_cons_zero]; exact rfl) ?s1_u182v2z2 ?s2_u182v2z2 ?s3_u182v2z2 ?s4_u182v2z2 ?s5_u182v2z2 ?s6_u182v2z2 ?s7_u182v2z2
                            case s1_u182v2z2 | s2_u182v2z2 | s3_u182v2z2 => kernel_rfl
                            case s4_u182v2z2 => exact fun _ _ _ h => h
                            case s5_u182v2z2 => exact Or.inl ⟨rfl, by intro w hSw; (try dsimp only at hSw); go_simp; try with_reducible rfl⟩
                            case s6_u182v2z2 => assumption
                            try simp only [Act.put, List.setIfInBounds_toArray, List.set_cons_zero, List.set_cons_succ]
                            with_reducible refine takeI2 (i := 39) (v := ?sv_u183v2z2) (oi := ?s0_u183v2z2) (by simp only [List.getElem?_toArray, List.getElem?_cons_succ, List.getElem?_cons_zero]; exact rfl) ?s1_u183v2z2 ?s2_u183v2z2 ?s3_u183v2z2 ?s4_u183v2z2 ?s5_u183v2z2 ?s6_u183v2z2 ?s7_u183v2z2
                            case s1_u183v2z2 | s2_u183v2z2 | s3_u183v2z2 => kernel_rfl
                            case s4_u183v2z2 => exact fun _ _ _ h => h
                            case s5_u183v2z2 => exact Or.inl ⟨rfl, by intro w hSw; (try dsimp only at hSw); go_simp; try with_reducible rfl⟩
                            case s6_u183v2z2 => assumption
                            try simp only [Act.put, List.setIfInBounds_toArray, List.set_cons_zero, List.set_cons_succ]
                            with_reducible refine wpAnyH_done ?s1_u184v2z2 ?s2_u184v2z2 _
                            case s1_u184v2z2 => kernel_rfl
                            clear q0 q1 q2 q3 HSN2 hq2 hwx
                            have hE0 := Below.refl w15.heap.size w15
                            go_wp2_with (fail)
                            go_loopw [17] (fun i wr => ∃ t : Nat, t ≤ q ∧ i = .int .i64 t ∧ Below w15.heap.size w15 wr) (fun i _ => q - (intOf i).toNat)
                            case atStart => exact ⟨0, Nat.zero_le _, rfl, hE0⟩
                            case round =>
                             focus
                              clear hE0
                              obtain ⟨t2, ht2, rfl, hE⟩ := hrel
                              obtain ⟨wo6, hwo6⟩ : ∃ wo6 : World, wo6 = wr := ⟨_, rfl⟩
                              subst hwo6
                              by_cases htq : t2 < q
                              · have qt : (t2 : Int) < (q : Int) := by omega
                                have p0 := cell_on (bvia hD hE).drew (HKK.out.cH t2 htq)
                                have p1 := cell_on hE.drew (HCL.out t2 htq)
                                have hll := HLE.out t2
                                generalize f t2 = x2 at p0 hll
                                generalize f2 t2 = y2 at p1 hll
                                have hll2 : decide (x2 < y2) = false := decide_eq_false (by omega)
                                clear hll
                                go_wp2_with (fail)
                                with_reducible refine region_beg (n := 9) (S := (fun w => w.cell? ⟨bh, oi + t2, none⟩ = some (.int .i64 x2) ∧ w.cell? ⟨bL, oL + t2, none⟩ = some (.int .i64 y2))) ?b1_u130v2z2 ?b2_u130v2z2 ?b3_u130v2z2 (fun hHeld => ?b4_u130v2z2)
                                case b1_u130v2z2 => kernel_rfl
                                case b2_u130v2z2 => kernel_rfl
                                case b3_u130v2z2 => exact ⟨p0, p1⟩
                                with_reducible refine takeI2 (i := 0) (v := ?sv_u131v2z2) (oi := ?s0_u131v2z2) (by simp only [List.getElem?_toArray, List.getElem?_cons_succ, List.getElem?_cons_zero]; exact rfl) ?s1_u131v2z2 ?s2_u131v2z2 ?s3_u131v2z2 ?s4_u131v2z2 ?s5_u131v2z2 ?s6_u131v2z2 ?s7_u131v2z2
                                case s1_u131v2z2 | s2_u131v2z2 | s3_u131v2z2 => kernel_rfl
                                case s4_u131v2z2 => exact fun _ _ _ h => h
                                case s5_u131v2z2 => exact Or.inl ⟨rfl, by intro w hSw; (try dsimp only at hSw); go_simp; try with_reducible rfl⟩
                                case s6_u131v2z2 => assumption
                                try simp only [Act.put, List.setIfInBounds_toArray, List.set_cons_zero, List.set_cons_succ]
                                with_reducible refine takeI2 (i := 1) (v := ?sv_u132v2z2) (oi := ?s0_u132v2z2) (by simp only [List.getElem?_toArray, List.getElem?_cons_succ, List.getElem?_cons_zero]; exact rfl) ?s1_u132v2z2 ?s2_u132v2z2 ?s3_u132v2z2 ?s4_u132v2z2 ?s5_u132v2z2 ?s6_u132v2z2 ?s7_u132v2z2
                                case s1_u132v2z2 | s2_u132v2z2 | s3_u132v2z2 => kernel_rfl
                                case s4_u132v2z2 => exact fun _ _ _ h => h
                                case s5_u132v2z2 => exact Or.inl ⟨rfl, by intro w hSw; (try dsimp only at hSw); go_simp; try with_reducible rfl⟩
                                case s6_u132v2z2 => assumption
                                try simp only [Act.put, List.setIfInBounds_toArray, List.set_cons_zero, List.set_cons_succ]
                                with_reducible refine takeI2 (i := 2) (v := ?sv_u133v2z2) (oi := ?s0_u133v2z2) (by simp only [List.getElem?_toArray, List.getElem?_cons_succ, List.getElem?_cons_zero]; exact rfl) ?s1_u133v2z2 ?s2_u133v2z2 ?s3_u133v2z2 ?s4_u133v2z2 ?s5_u133v2z2 ?s6_u133v2z2 ?s7_u133v2z2
                                case s1_u133v2z2 | s2_u133v2z2 | s3_u133v2z2 => kernel_rfl
                                case s4_u133v2z2 => exact fun _ _ _ h => h
                                case s5_u133v2z2 => exact Or.inl ⟨rfl, by intro w hSw; (try dsimp only at hSw); go_simp; try with_reducible rfl⟩
                                case s6_u133v2z2 => assumption
                                try simp only [Act.put, List.setIfInBounds_toArray, List.set_cons_zero, List.set_cons_succ]
                                with_reducible refine takeI2 (i := 3) (v := ?sv_u134v2z2) (oi := ?s0_u134v2z2) (by simp only [List.getElem?_toArray, List.getElem?_cons_succ, List.getElem?_cons_zero]; exact rfl) ?s1_u134v2z2 ?s2_u134v2z2 ?s3_u134v2z2 ?s4_u134v2z2 ?s5_u134v2z2 ?s6_u134v2z2 ?s7_u134v2z2
                                case s1_u134v2z2 | s2_u134v2z2 | s3_u134v2z2 => kernel_rfl
                                case s4_u134v2z2 => exact fun _ _ _ h => h
                                case s5_u134v2z2 => exact Or.inl ⟨rfl, by intro w hSw; (try dsimp only at hSw); go_simp; try with_reducible rfl⟩
                                case s6_u134v2z2 => assumption
                                try simp only [Act.put, List.setIfInBounds_toArray, List.set_cons_zero, List.set_cons_succ]
                                with_reducible refine takeI2 (i := 4) (v := ?sv_u135v2z2) (oi := ?s0_u135v2z2) (by simp only [List.getElem?_toArray, List.getElem?_cons_succ, List.getElem?_cons_zero]; exact rfl) ?s1_u135v2z2 ?s2_u135v2z2 ?s3_u135v2z2 ?s4_u135v2z2 ?s5_u135v2z2 ?s6_u135v2z2 ?s7_u135v2z2
                                case s1_u135v2z2 | s2_u135v2z2 | s3_u135v2z2 => kernel_rfl
                                case s4_u135v2z2 => exact fun _ _ _ h => h
                                case s5_u135v2z2 => exact Or.inl ⟨rfl, by intro w hSw; (try dsimp only at hSw); go_simp; try with_reducible rfl⟩
                                case s6_u135v2z2 => assumption
                                try simp only [Act.put, List.setIfInBounds_toArray, List.set_cons_zero, List.set_cons_succ]
                                with_reducible refine takeI2 (i := 5) (v := ?sv_u136v2z2) (oi := ?s0_u136v2z2) (by simp only [List.getElem?_toArray, List.getElem?_cons_succ, List.getElem?_cons_zero]; exact rfl) ?s1_u136v2z2 ?s2_u136v2z2 ?s3_u136v2z2 ?s4_u136v2z2 ?s5_u136v2z2 ?s6_u136v2z2 ?s7_u136v2z2
                                case s1_u136v2z2 | s2_u136v2z2 | s3_u136v2z2 => kernel_rfl
                                case s4_u136v2z2 => exact fun _ _ _ h => h
                                case s5_u136v2z2 => exact Or.inl ⟨rfl, by intro w hSw; (try dsimp only at hSw); go_simp; try with_reducible rfl⟩
                                case s6_u136v2z2 => assumption
                                try simp only [Act.put, List.setIfInBounds_toArray, List.set_cons_zero, List.set_cons_succ]
                                with_reducible refine takeI2 (i := 6) (v := ?sv_u137v2z2) (oi := ?s0_u137v2z2) (by simp only [List.getElem?_toArray, List.getElem?_cons_succ, List.getElem?_cons_zero]; exact rfl) ?s1_u137v2z2 ?s2_u137v2z2 ?s3_u137v2z2 ?s4_u137v2z2 ?s5_u137v2z2 ?s6_u137v2z2 ?s7_u137v2z2
                                case s1_u137v2z2 | s2_u137v2z2 | s3_u137v2z2 => kernel_rfl
                                case s4_u137v2z2 => exact fun _ _ _ h => h
                                case s5_u137v2z2 => exact Or.inl ⟨rfl, by intro w hSw; (try dsimp only at hSw); go_simp; try with_reducible rfl⟩
                                case s6_u137v2z2 => assumption
                                try simp only [Act.put, List.setIfInBounds_toArray, List.set_cons_zero, List.set_cons_succ]
                                with_reducible refine takeI2 (i := 7) (v := ?sv_u138v2z2) (oi := ?s0_u138v2z2) (by simp only [List.getElem?_toArray, List.getElem?_cons_succ, List.getElem?_cons_zero]; exact rfl) ?s1_u138v2z2 ?s2_u138v2z2 ?s3_u138v2z2 ?s4_u138v2z2 ?s5_u138v2z2 ?s6_u138v2z2 ?s7_u138v2z2
                                case s1_u138v2z2 | s2_u138v2z2 | s3_u138v2z2 => kernel_rfl
                                case s4_u138v2z2 => exact fun _ _ _ h => h
                                case s5_u138v2z2 => exact Or.inl ⟨rfl, by intro w hSw; (try dsimp only at hSw); go_simp; try with_reducible rfl⟩
                                case s6_u138v2z2 => assumption
                                try simp only [Act.put, List.setIfInBounds_toArray, List.set_cons_zero, List.set_cons_succ]
                                with_reducible refine takeI2 (i := 8) (v := ?sv_u139v2z2) (oi := ?s0_u139v2z2) (by simp only [List.getElem?_toArray, List.getElem?_cons_succ, List.getElem?_cons_zero]; exact rfl) ?s1_u139v2z2 ?s2_u139v2z2 ?s3_u139v2z2 ?s4_u139v2z2 ?s5_u139v2z2 ?s6_u139v2z2 ?s7_u139v2z2
                                case s1_u139v2z2 | s2_u139v2z2 | s3_u139v2z2 => kernel_rfl
                                case s4_u139v2z2 => exact fun _ _ _ h => h
                                case s5_u139v2z2 => exact Or.inl ⟨rfl, by intro w hSw; (try dsimp only at hSw); go_simp; try with_reducible rfl⟩
                                case s6_u139v2z2 => assumption
                                try simp only [Act.put, List.setIfInBounds_toArray, List.set_cons_zero, List.set_cons_succ]
                                with_reducible refine wpAnyH_done ?s1_u140v2z2 ?s2_u140v2z2 _
                                case s1_u140v2z2 => kernel_rfl
                                go_wp2_with (fail)
                                exact ⟨⟨t2 + 1, by omega, by go_num, hE.drew⟩, by simp [intOf]; omega⟩
                              · go_wp2_with (fail)
                                exact ⟨⟨j + 1, by omega, by go_num, bvia hD hE⟩, by simp [intOf]; omega⟩
                        · obtain rfl : j = q := by omega
                          go_wp2_with (fail)
                          obtain ⟨y, hyN, hwv, hy0⟩ := HWO.out.2 (by rw [HS.out]; omega)
                          refine (HWW.out _ _ _ (HKK.out.hR.below hD) (HKK.out.hP.below hD)).mono ?_
                          rw [hwv]
                          rintro e w17 ⟨rfl, hb⟩
                          replace hD := bvia hD hb
                          clear hb m0 m1 hwv
                          obtain ⟨m0, m1⟩ := HKK.out.hX.below hD
                          have c0 := cell_on hD (HKK.out.cP y hyN)
                          generalize pf ps y = z at c0 hy0
                          have z0 : ((y : Int) == -1) = false := beq_eq_false_iff_ne.2 (by omega)
                          have z1 : ((S : Int) == 1) = false := beq_eq_false_iff_ne.2 (by omega)
                          have z2 : (S == 1) = false := beq_eq_false_iff_ne.2 (by omega)
                          have z3 : decide ((y : Int) < 0) = false := decide_eq_false (by omega)
                          have z4 : (y : Int) < (j : Int) := by omega
                          go_wp2_with (fail)
                          go_returns
                          exact ⟨rfl, bvia HKK.out.hB hD⟩
  · have hbd : decide (1048576 < n) = true := decide_eq_true (by omega)
    have hB := Below.refl w.heap.size w
    go_enter Try.func3, Try.ntmps3
    go_wp2_with (fail)
    refine (big_any n _ _ _ hr).mono ?_
    rintro e w1 ⟨rfl, rfl⟩
    go_wp2_with (fail)
    go_returns
    exact ⟨rfl, hB⟩
end Go.Proofs.Ytfedhjfijcnpdaa
