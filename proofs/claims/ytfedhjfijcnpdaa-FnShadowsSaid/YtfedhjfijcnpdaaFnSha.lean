/- The walk of the law FnShadows. -/
import Derived.Test.YtfedhjfijcnpdaaShP
import Derived.Test.YtfedhjfijcnpdaaDrawP
namespace Go.Proofs.Ytfedhjfijcnpdaa
open Go.ChangeShapes Go.WideShapes Go.ChangeAt Go.RowKit Go.Joins Tr
set_option linter.unusedSimpArgs false
set_option linter.unusedVariables false
set_option maxRecDepth 20000

theorem sameInts_any (zs : List Int) (v u : Value) (w : World) (h : RdI w v zs) (h' : RdI w u zs) :
    Calls Try.prog 25 #[v, u] w fun e w' => e = .returned (.bool true) ∧ Dr w w' := by
  obtain ⟨ad, cap, bl, off, rfl, hcap, hmax, had, hc⟩ := h.open
  obtain ⟨ad', cap', bl', off', rfl, hcap', hmax', had', hc'⟩ := h'.open
  have HC := Lib.hid hc
  have HC' := Lib.hid hc'
  clear h hc h' hc'
  go_enter Try.func25, Try.ntmps25
  go_wp2
  go_loopw [5] (fun i wr => ∃ k : Nat, k ≤ zs.length ∧ i = .int .i64 k ∧ Dr w wr) (fun i _ => zs.length - (intOf i).toNat)
  case atStart => exact ⟨0, Nat.zero_le _, rfl, Dr.refl _⟩
  case round =>
    obtain ⟨k, hk, rfl, hD⟩ := hrel
    by_cases hlt : k < zs.length
    · obtain rfl := had (by omega)
      obtain rfl := had' (by omega)
      obtain ⟨x, hck, hck'⟩ : ∃ x, wr.cell? ⟨bl, off + k, none⟩ = some (.int .i64 x) ∧ wr.cell? ⟨bl', off' + k, none⟩ = some (.int .i64 x) := ⟨_, hD.cell (HC.out k hlt), hD.cell (HC'.out k hlt)⟩
      go_wp2
      go_quiet (fail)
      go_wp2
      exact ⟨⟨k + 1, by omega, by go_num, hD.next _⟩, by simp [intOf]; omega⟩
    · go_wp2
      go_ret
      exact ⟨rfl, hD⟩
theorem covLit (w : World) (x y a b : Int) :
    RdII (((w.alloc (.cells #[.int .i64 x, .int .i64 y] 3)).alloc (.cells #[.int .i64 a, .int .i64 b] 3)).alloc (.cells #[.slice (some ⟨w.heap.size, 0, none⟩) 2 2, .slice (some ⟨w.heap.size + 1, 0, none⟩) 2 2] 27)) (.slice (some ⟨w.heap.size + 1 + 1, 0, none⟩) 2 2) [[x, y], [a, b]] ∧
    Below w.heap.size w (((w.alloc (.cells #[.int .i64 x, .int .i64 y] 3)).alloc (.cells #[.int .i64 a, .int .i64 b] 3)).alloc (.cells #[.slice (some ⟨w.heap.size, 0, none⟩) 2 2, .slice (some ⟨w.heap.size + 1, 0, none⟩) 2 2] 27)) := by
  refine ⟨⟨[.slice (some ⟨w.heap.size, 0, none⟩) 2 2, .slice (some ⟨w.heap.size + 1, 0, none⟩) 2 2], rfl, ?_, ?_⟩, below_alloc3 w _ _ _⟩
  · have h := rd_alloc ((w.alloc (.cells #[.int .i64 x, .int .i64 y] 3)).alloc (.cells #[.int .i64 a, .int .i64 b] 3)) #[.slice (some ⟨w.heap.size, 0, none⟩) 2 2, .slice (some ⟨w.heap.size + 1, 0, none⟩) 2 2] 27 2 (by decide)
    rw [show ((w.alloc (.cells #[.int .i64 x, .int .i64 y] 3)).alloc (.cells #[.int .i64 a, .int .i64 b] 3)).heap.size = w.heap.size + 1 + 1 by simp] at h
    exact h
  · intro j u zs hu hz
    have h1 : OwI (w.alloc (.cells #[.int .i64 x, .int .i64 y] 3)) w.heap.size (.slice (some ⟨w.heap.size, 0, none⟩) 2 2) [x, y] := World.ownsRow_lit w #[.int .i64 x, .int .i64 y] 2 (Nat.le_refl _) (by rw [maxLen_eq]; omega) rfl
    have h2 : OwI ((w.alloc (.cells #[.int .i64 x, .int .i64 y] 3)).alloc (.cells #[.int .i64 a, .int .i64 b] 3)) w.heap.size (.slice (some ⟨w.heap.size + 1, 0, none⟩) 2 2) [a, b] := by
      have h : OwI ((w.alloc (.cells #[.int .i64 x, .int .i64 y] 3)).alloc (.cells #[.int .i64 a, .int .i64 b] 3)) w.heap.size (.slice (some ⟨(w.alloc (.cells #[.int .i64 x, .int .i64 y] 3)).heap.size, 0, none⟩) 2 2) [a, b] := World.ownsRow_lit (w.alloc (.cells #[.int .i64 x, .int .i64 y] 3)) #[.int .i64 a, .int .i64 b] 2 (by simp) (by rw [maxLen_eq]; omega) rfl
      simpa using h
    match j with
    | 0 =>
      simp at hu hz
      subst hu
      subst hz
      exact ((h1.alloc _).alloc _).rd
    | 1 =>
      simp at hu hz
      subst hu
      subst hz
      exact (h2.alloc _).rd
    | j + 2 => simp at hu
theorem wpList_nil_app {P : Program} {ops : Array Oper} {Q : Exit → Act → World → Prop} {l : List Oper} {a : Act} {w : World} (h : wpList P ops Q l a w) : wpList P ops Q (List.append [] l) a w := h
theorem pose_bdS {N : Nat} {zs : List LimbV} {ps : List Int} (h : pullsB N zs ps = true) {j : Nat} (hj : j < N) : -2000 ≤ hp (fill N (edges zs)) (pf ps) N j ∧ hp (fill N (edges zs)) (pf ps) N j ≤ 500 := by
  obtain ⟨_, _, _, h3, _, h5, _⟩ := pulls_facts h
  exact hp_bd h5 (fun i _ => (pf_bd h3 i).2) hj N (Nat.le_refl _)
theorem RdI.rlc {w : World} {v : Value} {N : Nat} {f : Nat → Int} (h : RdI w v (rl N f)) : ∃ a c b o, v = .slice a N c ∧ (0 < N → a = some ⟨b, o, none⟩) ∧ ∀ k, k < N → w.cell? ⟨b, o + k, none⟩ = some (.int .i64 (f k)) := by
  obtain ⟨a, c, b, o, rfl, _, _, ha, hc⟩ := h.open
  rw [rl_len] at ha hc ⊢
  refine ⟨a, c, b, o, rfl, ha, fun k hk => ?_⟩
  have := hc k hk
  rw [rl_getD f hk] at this
  exact this

set_option maxRecDepth 40000 in
set_option maxHeartbeats 20000000 in
theorem walkFnShadows (n : Nat) (v : Value) (w : World) (hr : RdB w w.heap.size v n) : Calls Try.prog 4 #[v] w fun e w' => e = .returned (.bool true) ∧ Below w.heap.size w w' := by
  by_cases hbig : n ≤ 1048576
  · have hbd : decide (1048576 < n) = false := decide_eq_false (by omega)
    have hB := Below.refl w.heap.size w
    go_enter Try.func4, Try.ntmps4
    go_wp2_with (fail)
    refine (big_any n _ _ _ hr).mono ?_
    rintro e w0 ⟨rfl, rfl⟩
    go_wp2_with (fail)
    refine (at_any n 0 (by omega) (by omega) _ _ _ hr).mono ?_
    rintro e w1 ⟨xa, rfl, xa0, xa1, hd⟩
    have hb := hd.below
    clear hd
    replace hr := hr.below hb
    replace hB := bvia hB hb
    clear hb
    obtain ⟨z, hz⟩ : ∃ z, 1 + xa = z := ⟨_, rfl⟩
    have hz1 : 1 ≤ z ∧ z ≤ 256 := by omega
    go_wp2_with (fail)
    clear hz xa0 xa1
    refine (at_any n 1 (by omega) (by omega) _ _ _ hr).mono ?_
    rintro e w2 ⟨xb, rfl, xb0, xb1, hd⟩
    have hb := hd.below
    clear hd
    replace hr := hr.below hb
    replace hB := bvia hB hb
    clear hb
    obtain ⟨s, hs⟩ : ∃ s, 1 + xb = s := ⟨_, rfl⟩
    have hs1 : 1 ≤ s ∧ s ≤ 256 := by omega
    go_wp2_with (fail)
    clear hs xb0 xb1
    refine (at_any n 2 (by omega) (by omega) _ _ _ hr).mono ?_
    rintro e w3 ⟨xc, rfl, xc0, xc1, hd⟩
    have hb := hd.below
    clear hd
    replace hr := hr.below hb
    replace hB := bvia hB hb
    clear hb
    obtain ⟨rs, rse⟩ : ∃ r, xc % s = r := ⟨_, rfl⟩
    have rs0 : ¬ s = 0 := by omega
    have rs1 : xc.tmod s = rs := by rw [Int.tmod_eq_emod_of_nonneg xc0]; exact rse
    have rs2 : 0 ≤ rs ∧ rs ≤ s - 1 := by
      rw [← rse]
      have h1 := Int.emod_nonneg xc rs0
      have h2 := Int.emod_lt_of_pos xc (show 0 < s by omega)
      omega
    have rs3 : IntKind.i64.wrap rs = rs := IntWalk.i64_in _ (by omega)
    obtain ⟨p, hp⟩ : ∃ p, 1 + rs = p := ⟨_, rfl⟩
    have hp1 : 1 ≤ p ∧ p ≤ s := by omega
    clear rse
    go_wp2_with (fail)
    clear rs0 rs1 rs2 rs3 hp xc0 xc1
    have HSS := Lib.hid (fun z p s w' => implShadowSize_any z p s w')
    refine (HSS.out _ _ _ _).mono ?_
    rintro e w4 ⟨rfl, rfl⟩
    have hzz : 0 ≤ z ∧ z ≤ 1000 := by omega
    have hss : 1 ≤ s ∧ s ≤ 1000 := by omega
    have hn1 := size_ge hzz hss hp1
    have hn2 := (size_bd hzz hss hp1).2
    generalize shadowSize z p s = n1 at hn1 hn2 ⊢
    go_wp2_with (fail)
    refine (at_any n 3 (by omega) (by omega) _ _ _ hr).mono ?_
    rintro e w5 ⟨xd, rfl, xd0, xd1, hd⟩
    have hb := hd.below
    clear hd
    replace hr := hr.below hb
    replace hB := bvia hB hb
    clear hb
    obtain ⟨q, hq⟩ : ∃ q, z + xd = q := ⟨_, rfl⟩
    have hq1 : 1 ≤ q ∧ q ≤ 511 := by omega
    go_wp2_with (fail)
    clear hq xd0 xd1
    have HP := puppet_spec hzz hss (show 0 ≤ q ∧ q ≤ 1000000 by omega)
    refine (implPuppetFor_any z q s _).mono ?_
    rintro e w6 ⟨rfl, rfl⟩
    generalize puppetFor z q s = g at HP ⊢
    obtain ⟨g0, g1, g2, g3⟩ := HP
    have hgw : IntKind.i64.wrap (g + 1) = g + 1 := IntWalk.i64_in _ (by omega)
    have HG2 := Lib.hid g2
    have HG3 := Lib.hid g3
    clear g2 g3
    go_wp2_with (fail)
    refine (drawHung_any n _ _ (hr.up hB.size)).mono ?_
    rintro e w7 ⟨N, zs, ps, ul, xp, rfl, hok, ol, op, hb⟩
    replace hr := hr.below hb
    replace hB := bvia hB hb
    obtain ⟨al, cl, rfl⟩ := ol.rd.shape
    obtain ⟨ap, cp, rfl⟩ := op.rd.shape
    clear hb
    have hpf := pulls_facts hok
    have hN := hpf.1
    have hba := below_alloc1 w7 (.cells #[.int .i64 N, .slice al zs.length cl] 26)
    have hX := BX.new w7 N (.slice al zs.length cl)
    have HK := Lib.hid (And.intro hX (And.intro (ol.rd.below hba) (And.intro (op.rd.below hba) (And.intro (hr.below hba) (bvia hB hba)))))
    have HH := Lib.hid (fun w' h h' => specHangPose_any N zs ps hok (.slice al zs.length cl) (.slice ap ps.length cp) w' h h')
    rw [poseL_eq] at HH
    have HFB := Lib.hid (fun j hj => pose_bdS hok (j := j) hj)
    generalize hp (fill N (edges zs)) (pf ps) N = f at HH HFB
    clear hba hX ol op hr hB hok hpf
    go_wp2_with (fail)
    generalize w7.alloc (.cells #[.int .i64 N, .slice al zs.length cl] 26) = w8 at HK ⊢
    generalize w7.heap.size = gx at HK ⊢
    obtain ⟨hX, hR, hP, hr, hB⟩ := HK.out
    clear HK
    obtain ⟨m0, m1⟩ := id hX
    go_wp2_with (fail)
    refine (HH.out _ hR hP).mono ?_
    rintro e w9 ⟨uh, rfl, oh, hb⟩
    replace hr := hr.below hb
    replace hB := bvia hB hb
    clear hb m0 m1 hX hR hP HH
    have hh := oh.rd
    clear oh
    go_wp2_with (fail)
    refine (implShadowOf_any (rl N f) 20 p s _ _ hh).mono ?_
    rw [shadow_rl hN.2 HFB.out hss hp1]
    rintro e w10 ⟨us, rfl, os, hb⟩
    replace hr := hr.below hb
    replace hh := hh.below hb
    replace hB := bvia hB hb
    have hs := os.rd
    clear hb os
    go_wp2_with (fail)
    refine (implShadowOf_any (rl N f) 20 s s _ _ hh).mono ?_
    rw [shadow_rl hN.2 HFB.out hss ⟨hss.1, Int.le_refl _⟩, show (rl N fun v => shadowAt 20 s s (f v)) = rl N f from rl_congr fun v _ => shadow_self hss.1]
    rintro e w11 ⟨ut, rfl, ot, hb⟩
    replace hr := hr.below hb
    replace hh := hh.below hb
    replace hs := hs.below hb
    replace hB := bvia hB hb
    have ht := ot.rd
    clear hb ot
    obtain ⟨aH, cH, bH, oH, rfl, hah, hch⟩ := hh.rlc
    obtain ⟨aS, cS, bS, oS, rfl, has, hcs⟩ := hs.rlc
    obtain ⟨aT, cT, bT, oT, rfl, hat, hct⟩ := ht.rlc
    have HCS := Lib.hid (And.intro hch hcs)
    have hn3 : decide (n1 < z) = false := decide_eq_false (by omega)
    have hg3 : decide (s < g) = false := decide_eq_false (by omega)
    have HZ0 := Lib.hid (size_self hzz hss)
    have HSM := Lib.hid (fun i k (h : f i ≤ f k) => shadow_mono (p := p) (s := s) hp1.1 hss.1 h)
    clear hch hcs hat hct hn1
    have hNN : ((N : Int) == (N : Int)) = true := beq_self_eq_true _
    go_wp2_with (fail)
    refine (HSS.out _ _ _ _).mono ?_
    rw [HZ0.out]
    rintro e w12 ⟨rfl, rfl⟩
    go_wp2_with (fail)
    refine (sameInts_any _ _ _ _ ht hh).mono ?_
    rintro e w13 ⟨rfl, hd⟩
    have hb := hd.below
    replace hr := hr.below hb
    replace hh := hh.below hb
    replace hs := hs.below hb
    replace hB := bvia hB hb
    clear hd ht
    have HCS2 : Hid ((∀ k, k < N → w13.cell? ⟨bH, oH + k, none⟩ = some (.int .i64 (f k))) ∧ ∀ k, k < N → w13.cell? ⟨bS, oS + k, none⟩ = some (.int .i64 (shadowAt 20 p s (f k)))) := ⟨fun k hk => cell_on hb (HCS.out.1 k hk), fun k hk => cell_on hb (HCS.out.2 k hk)⟩
    clear hb HCS
    by_cases hg1 : 1 ≤ g
    · have hG2 := HG2.out hg1
      have hg5 : decide (g < 1) = false := decide_eq_false (by omega)
      by_cases hgs : g < s
      · obtain ⟨hG3, hG4⟩ := hG2
        have hG5 := hG4 hgs
        have HS1 := Lib.hid (fun w' => HSS.out z g s w')
        have HS2 := Lib.hid (fun w' => HSS.out z (g + 1) s w')
        generalize shadowSize z g s = S1 at HS1 hG3
        generalize shadowSize z (g + 1) s = S2 at HS2 hG5
        have hG6 : decide (S1 < q) = false := decide_eq_false (by omega)
        have hG7 : decide (q ≤ S2) = false := decide_eq_false (by omega)
        clear hG3 hG4 hG5 HG2 HG3
        go_wp2_with (fail)
        refine (HS1.out _).mono ?_
        rintro e w14 ⟨rfl, rfl⟩
        go_wp2_with (fail)
        refine (HS2.out _).mono ?_
        rintro e w15 ⟨rfl, rfl⟩
        have HFQ := Lib.hid HCS2.out
        have hD0 := Dr.refl w13
        clear hh hs
        go_wp2_with (fail)
        go_loopw [14] (fun i wr => ∃ k : Nat, k ≤ N ∧ i = .int .i64 k ∧ Dr w13 wr) (fun i _ => N - (intOf i).toNat)
        case atStart => exact ⟨0, Nat.zero_le _, rfl, hD0⟩
        case round =>
         focus
          clear hD0
          obtain ⟨k, hk, rfl, hD⟩ := hrel
          obtain ⟨wo, hwo⟩ : ∃ wo : World, wo = wr := ⟨_, rfl⟩
          subst hwo
          by_cases hkN : k < N
          · have qk : (k : Int) < (N : Int) := by omega
            go_wp2_with (fail)
            go_loopw [15] (fun i wr => ∃ j : Nat, j ≤ k ∧ i = .int .i64 j ∧ Dr w13 wr) (fun i _ => k - (intOf i).toNat)
            case atStart => exact ⟨0, Nat.zero_le _, rfl, hD⟩
            case round =>
             focus
              clear hD
              obtain ⟨j, hj, rfl, hD⟩ := hrel
              by_cases hjk : j < k
              · obtain rfl := hah (by omega)
                obtain rfl := has (by omega)
                have qj : (j : Int) < (k : Int) := by omega
                have qjN : (j : Int) < (N : Int) := by omega
                have c0 := hD.cell (HFQ.out.1 j (by omega))
                have c1 := hD.cell (HFQ.out.1 k hkN)
                have c2 := hD.cell (HFQ.out.2 j (by omega))
                have c3 := hD.cell (HFQ.out.2 k hkN)
                have hm := HSM.out j k
                have he : f j = f k → shadowAt 20 p s (f j) = shadowAt 20 p s (f k) := fun h => by rw [h]
                generalize shadowAt 20 p s (f j) = sx at c2 hm he
                generalize shadowAt 20 p s (f k) = sy at c3 hm he
                generalize f j = x at c0 hm he
                generalize f k = y at c1 hm he
                rcases (by omega : x < y ∨ x = y ∨ y < x) with h | h | h
                · have h1 : decide (sy < sx) = false := decide_eq_false (by have := hm (by omega); omega)
                  have h2 : (x == y) = false := beq_eq_false_iff_ne.2 (by omega)
                  have h3 : ¬ x = y := by omega
                  clear hm he
                  go_wp2_with (fail)
                  have q0 := cell_on (dr1 wr).below c0
                  have q1 := cell_on (dr1 wr).below c1
                  have q2 := cell_on (dr1 wr).below c2
                  have q3 := cell_on (dr1 wr).below c3
                  clear c0 c1 c2 c3
                  with_reducible refine region_beg (n := 42) (S := (fun w => w.cell? ⟨bH, oH + j, none⟩ = some (.int .i64 x) ∧ w.cell? ⟨bH, oH + k, none⟩ = some (.int .i64 y) ∧ w.cell? ⟨bS, oS + j, none⟩ = some (.int .i64 sx) ∧ w.cell? ⟨bS, oS + k, none⟩ = some (.int .i64 sy))) ?b1_u1v1 ?b2_u1v1 ?b3_u1v1 (fun hHeld => ?b4_u1v1)
                  case b1_u1v1 => kernel_rfl
                  case b2_u1v1 => kernel_rfl
                  case b3_u1v1 => exact ⟨q0, q1, q2, q3⟩
                  with_reducible refine takeI2 (i := 0) (v := ?sv_u2v1) (oi := ?s0_u2v1) (by simp only [List.getElem?_toArray, List.getElem?_cons_succ, List.getElem?_cons_zero]; exact rfl) ?s1_u2v1 ?s2_u2v1 ?s3_u2v1 ?s4_u2v1 ?s5_u2v1 ?s6_u2v1 ?s7_u2v1
                  case s1_u2v1 | s2_u2v1 | s3_u2v1 => kernel_rfl
                  case s4_u2v1 => exact fun _ _ _ h => h
                  case s5_u2v1 => exact Or.inl ⟨rfl, by intro w hSw; (try dsimp only at hSw); go_simp; try with_reducible rfl⟩
                  case s6_u2v1 => assumption
                  try simp only [Act.put, List.setIfInBounds_toArray, List.set_cons_zero, List.set_cons_succ]
                  with_reducible refine takeI2 (i := 1) (v := ?sv_u3v1) (oi := ?s0_u3v1) (by simp only [List.getElem?_toArray, List.getElem?_cons_succ, List.getElem?_cons_zero]; exact rfl) ?s1_u3v1 ?s2_u3v1 ?s3_u3v1 ?s4_u3v1 ?s5_u3v1 ?s6_u3v1 ?s7_u3v1
                  case s1_u3v1 | s2_u3v1 | s3_u3v1 => kernel_rfl
                  case s4_u3v1 => exact fun _ _ _ h => h
                  case s5_u3v1 => exact Or.inl ⟨rfl, by intro w hSw; (try dsimp only at hSw); go_simp; try with_reducible rfl⟩
                  case s6_u3v1 => assumption
                  try simp only [Act.put, List.setIfInBounds_toArray, List.set_cons_zero, List.set_cons_succ]
                  with_reducible refine takeI2 (i := 2) (v := ?sv_u4v1) (oi := ?s0_u4v1) (by simp only [List.getElem?_toArray, List.getElem?_cons_succ, List.getElem?_cons_zero]; exact rfl) ?s1_u4v1 ?s2_u4v1 ?s3_u4v1 ?s4_u4v1 ?s5_u4v1 ?s6_u4v1 ?s7_u4v1
                  case s1_u4v1 | s2_u4v1 | s3_u4v1 => kernel_rfl
                  case s4_u4v1 => exact fun _ _ _ h => h
                  case s5_u4v1 => exact Or.inl ⟨rfl, by intro w hSw; (try dsimp only at hSw); go_simp; try with_reducible rfl⟩
                  case s6_u4v1 => assumption
                  try simp only [Act.put, List.setIfInBounds_toArray, List.set_cons_zero, List.set_cons_succ]
                  with_reducible refine takeI2 (i := 3) (v := ?sv_u5v1) (oi := ?s0_u5v1) (by simp only [List.getElem?_toArray, List.getElem?_cons_succ, List.getElem?_cons_zero]; exact rfl) ?s1_u5v1 ?s2_u5v1 ?s3_u5v1 ?s4_u5v1 ?s5_u5v1 ?s6_u5v1 ?s7_u5v1
                  case s1_u5v1 | s2_u5v1 | s3_u5v1 => kernel_rfl
                  case s4_u5v1 => exact fun _ _ _ h => h
                  case s5_u5v1 => exact Or.inl ⟨rfl, by intro w hSw; (try dsimp only at hSw); go_simp; try with_reducible rfl⟩
                  case s6_u5v1 => assumption
                  try simp only [Act.put, List.setIfInBounds_toArray, List.set_cons_zero, List.set_cons_succ]
                  with_reducible refine takeI2 (i := 4) (v := ?sv_u6v1) (oi := ?s0_u6v1) (by simp only [List.getElem?_toArray, List.getElem?_cons_succ, List.getElem?_cons_zero]; exact rfl) ?s1_u6v1 ?s2_u6v1 ?s3_u6v1 ?s4_u6v1 ?s5_u6v1 ?s6_u6v1 ?s7_u6v1
                  case s1_u6v1 | s2_u6v1 | s3_u6v1 => kernel_rfl
                  case s4_u6v1 => exact fun _ _ _ h => h
                  case s5_u6v1 => exact Or.inl ⟨rfl, by intro w hSw; (try dsimp only at hSw); go_simp; try with_reducible rfl⟩
                  case s6_u6v1 => assumption
                  try simp only [Act.put, List.setIfInBounds_toArray, List.set_cons_zero, List.set_cons_succ]
                  with_reducible refine takeI2 (i := 5) (v := ?sv_u7v1) (oi := ?s0_u7v1) (by simp only [List.getElem?_toArray, List.getElem?_cons_succ, List.getElem?_cons_zero]; exact rfl) ?s1_u7v1 ?s2_u7v1 ?s3_u7v1 ?s4_u7v1 ?s5_u7v1 ?s6_u7v1 ?s7_u7v1
                  case s1_u7v1 | s2_u7v1 | s3_u7v1 => kernel_rfl
                  case s4_u7v1 => exact fun _ _ _ h => h
                  case s5_u7v1 => exact Or.inl ⟨rfl, by intro w hSw; (try dsimp only at hSw); go_simp; try with_reducible rfl⟩
                  case s6_u7v1 => assumption
                  try simp only [Act.put, List.setIfInBounds_toArray, List.set_cons_zero, List.set_cons_succ]
                  with_reducible refine takeI2 (i := 6) (v := ?sv_u8v1) (oi := ?s0_u8v1) (by simp only [List.getElem?_toArray, List.getElem?_cons_succ, List.getElem?_cons_zero]; exact rfl) ?s1_u8v1 ?s2_u8v1 ?s3_u8v1 ?s4_u8v1 ?s5_u8v1 ?s6_u8v1 ?s7_u8v1
                  case s1_u8v1 | s2_u8v1 | s3_u8v1 => kernel_rfl
                  case s4_u8v1 => exact fun _ _ _ h => h
                  case s5_u8v1 => exact Or.inl ⟨rfl, by intro w hSw; (try dsimp only at hSw); go_simp; try with_reducible rfl⟩
                  case s6_u8v1 => assumption
                  try simp only [Act.put, List.setIfInBounds_toArray, List.set_cons_zero, List.set_cons_succ]
                  with_reducible refine takeI2 (i := 7) (v := ?sv_u9v1) (oi := ?s0_u9v1) (by simp only [List.getElem?_toArray, List.getElem?_cons_succ, List.getElem?_cons_zero]; exact rfl) ?s1_u9v1 ?s2_u9v1 ?s3_u9v1 ?s4_u9v1 ?s5_u9v1 ?s6_u9v1 ?s7_u9v1
                  case s1_u9v1 | s2_u9v1 | s3_u9v1 => kernel_rfl
                  case s4_u9v1 => exact fun _ _ _ h => h
                  case s5_u9v1 => exact Or.inl ⟨rfl, by intro w hSw; (try dsimp only at hSw); go_simp; try with_reducible rfl⟩
                  case s6_u9v1 => assumption
                  try simp only [Act.put, List.setIfInBounds_toArray, List.set_cons_zero, List.set_cons_succ]
                  with_reducible refine takeI2 (i := 8) (v := ?sv_u10v1) (oi := ?s0_u10v1) (by simp only [List.getElem?_toArray, List.getElem?_cons_succ, List.getElem?_cons_zero]; exact rfl) ?s1_u10v1 ?s2_u10v1 ?s3_u10v1 ?s4_u10v1 ?s5_u10v1 ?s6_u10v1 ?s7_u10v1
                  case s1_u10v1 | s2_u10v1 | s3_u10v1 => kernel_rfl
                  case s4_u10v1 => exact fun _ _ _ h => h
                  case s5_u10v1 => exact Or.inl ⟨rfl, by intro w hSw; (try dsimp only at hSw); go_simp; try with_reducible rfl⟩
                  case s6_u10v1 => assumption
                  try simp only [Act.put, List.setIfInBounds_toArray, List.set_cons_zero, List.set_cons_succ]
                  with_reducible refine takeI2 (i := 9) (v := ?sv_u11v1) (oi := ?s0_u11v1) (by simp only [List.getElem?_toArray, List.getElem?_cons_succ, List.getElem?_cons_zero]; exact rfl) ?s1_u11v1 ?s2_u11v1 ?s3_u11v1 ?s4_u11v1 ?s5_u11v1 ?s6_u11v1 ?s7_u11v1
                  case s1_u11v1 | s2_u11v1 | s3_u11v1 => kernel_rfl
                  case s4_u11v1 => exact fun _ _ _ h => h
                  case s5_u11v1 => exact Or.inl ⟨rfl, by intro w hSw; (try dsimp only at hSw); go_simp; try with_reducible rfl⟩
                  case s6_u11v1 => assumption
                  try simp only [Act.put, List.setIfInBounds_toArray, List.set_cons_zero, List.set_cons_succ]
                  with_reducible refine takeI2 (i := 10) (v := ?sv_u12v1) (oi := ?s0_u12v1) (by simp only [List.getElem?_toArray, List.getElem?_cons_succ, List.getElem?_cons_zero]; exact rfl) ?s1_u12v1 ?s2_u12v1 ?s3_u12v1 ?s4_u12v1 ?s5_u12v1 ?s6_u12v1 ?s7_u12v1
                  case s1_u12v1 | s2_u12v1 | s3_u12v1 => kernel_rfl
                  case s4_u12v1 => exact fun _ _ _ h => h
                  case s5_u12v1 => exact Or.inl ⟨rfl, by intro w hSw; (try dsimp only at hSw); go_simp; try with_reducible rfl⟩
                  case s6_u12v1 => assumption
                  try simp only [Act.put, List.setIfInBounds_toArray, List.set_cons_zero, List.set_cons_succ]
                  with_reducible refine takeI2 (i := 11) (v := ?sv_u13v1) (oi := ?s0_u13v1) (by simp only [List.getElem?_toArray, List.getElem?_cons_succ, List.getElem?_cons_zero]; exact rfl) ?s1_u13v1 ?s2_u13v1 ?s3_u13v1 ?s4_u13v1 ?s5_u13v1 ?s6_u13v1 ?s7_u13v1
                  case s1_u13v1 | s2_u13v1 | s3_u13v1 => kernel_rfl
                  case s4_u13v1 => exact fun _ _ _ h => h
                  case s5_u13v1 => exact Or.inl ⟨rfl, by intro w hSw; (try dsimp only at hSw); go_simp; try with_reducible rfl⟩
                  case s6_u13v1 => assumption
                  try simp only [Act.put, List.setIfInBounds_toArray, List.set_cons_zero, List.set_cons_succ]
                  with_reducible refine takeI2 (i := 12) (v := ?sv_u14v1) (oi := ?s0_u14v1) (by simp only [List.getElem?_toArray, List.getElem?_cons_succ, List.getElem?_cons_zero]; exact rfl) ?s1_u14v1 ?s2_u14v1 ?s3_u14v1 ?s4_u14v1 ?s5_u14v1 ?s6_u14v1 ?s7_u14v1
                  case s1_u14v1 | s2_u14v1 | s3_u14v1 => kernel_rfl
                  case s4_u14v1 => exact fun _ _ _ h => h
                  case s5_u14v1 => exact Or.inl ⟨rfl, by intro w hSw; (try dsimp only at hSw); go_simp; try with_reducible rfl⟩
                  case s6_u14v1 => assumption
                  try simp only [Act.put, List.setIfInBounds_toArray, List.set_cons_zero, List.set_cons_succ]
                  with_reducible refine takeI2 (i := 13) (v := ?sv_u15v1) (oi := ?s0_u15v1) (by simp only [List.getElem?_toArray, List.getElem?_cons_succ, List.getElem?_cons_zero]; exact rfl) ?s1_u15v1 ?s2_u15v1 ?s3_u15v1 ?s4_u15v1 ?s5_u15v1 ?s6_u15v1 ?s7_u15v1
                  case s1_u15v1 | s2_u15v1 | s3_u15v1 => kernel_rfl
                  case s4_u15v1 => exact fun _ _ _ h => h
                  case s5_u15v1 => exact Or.inl ⟨rfl, by intro w hSw; (try dsimp only at hSw); go_simp; try with_reducible rfl⟩
                  case s6_u15v1 => assumption
                  try simp only [Act.put, List.setIfInBounds_toArray, List.set_cons_zero, List.set_cons_succ]
                  with_reducible refine takeI2 (i := 14) (v := ?sv_u16v1) (oi := ?s0_u16v1) (by simp only [List.getElem?_toArray, List.getElem?_cons_succ, List.getElem?_cons_zero]; exact rfl) ?s1_u16v1 ?s2_u16v1 ?s3_u16v1 ?s4_u16v1 ?s5_u16v1 ?s6_u16v1 ?s7_u16v1
                  case s1_u16v1 | s2_u16v1 | s3_u16v1 => kernel_rfl
                  case s4_u16v1 => exact fun _ _ _ h => h
                  case s5_u16v1 => exact Or.inl ⟨rfl, by intro w hSw; (try dsimp only at hSw); go_simp; try with_reducible rfl⟩
                  case s6_u16v1 => assumption
                  try simp only [Act.put, List.setIfInBounds_toArray, List.set_cons_zero, List.set_cons_succ]
                  with_reducible refine takeI2 (i := 15) (v := ?sv_u17v1) (oi := ?s0_u17v1) (by simp only [List.getElem?_toArray, List.getElem?_cons_succ, List.getElem?_cons_zero]; exact rfl) ?s1_u17v1 ?s2_u17v1 ?s3_u17v1 ?s4_u17v1 ?s5_u17v1 ?s6_u17v1 ?s7_u17v1
                  case s1_u17v1 | s2_u17v1 | s3_u17v1 => kernel_rfl
                  case s4_u17v1 => exact fun _ _ _ h => h
                  case s5_u17v1 => exact Or.inl ⟨rfl, by intro w hSw; (try dsimp only at hSw); go_simp; try with_reducible rfl⟩
                  case s6_u17v1 => assumption
                  try simp only [Act.put, List.setIfInBounds_toArray, List.set_cons_zero, List.set_cons_succ]
                  with_reducible refine takeI2 (i := 16) (v := ?sv_u18v1) (oi := ?s0_u18v1) (by simp only [List.getElem?_toArray, List.getElem?_cons_succ, List.getElem?_cons_zero]; exact rfl) ?s1_u18v1 ?s2_u18v1 ?s3_u18v1 ?s4_u18v1 ?s5_u18v1 ?s6_u18v1 ?s7_u18v1
                  case s1_u18v1 | s2_u18v1 | s3_u18v1 => kernel_rfl
                  case s4_u18v1 => exact fun _ _ _ h => h
                  case s5_u18v1 => exact Or.inl ⟨rfl, by intro w hSw; (try dsimp only at hSw); go_simp; try with_reducible rfl⟩
                  case s6_u18v1 => assumption
                  try simp only [Act.put, List.setIfInBounds_toArray, List.set_cons_zero, List.set_cons_succ]
                  with_reducible refine takeI2 (i := 17) (v := ?sv_u19v1) (oi := ?s0_u19v1) (by simp only [List.getElem?_toArray, List.getElem?_cons_succ, List.getElem?_cons_zero]; exact rfl) ?s1_u19v1 ?s2_u19v1 ?s3_u19v1 ?s4_u19v1 ?s5_u19v1 ?s6_u19v1 ?s7_u19v1
                  case s1_u19v1 | s2_u19v1 | s3_u19v1 => kernel_rfl
                  case s4_u19v1 => exact fun _ _ _ h => h
                  case s5_u19v1 => exact Or.inl ⟨rfl, by intro w hSw; (try dsimp only at hSw); go_simp; try with_reducible rfl⟩
                  case s6_u19v1 => assumption
                  try simp only [Act.put, List.setIfInBounds_toArray, List.set_cons_zero, List.set_cons_succ]
                  with_reducible refine takeI2 (i := 18) (v := ?sv_u20v1) (oi := ?s0_u20v1) (by simp only [List.getElem?_toArray, List.getElem?_cons_succ, List.getElem?_cons_zero]; exact rfl) ?s1_u20v1 ?s2_u20v1 ?s3_u20v1 ?s4_u20v1 ?s5_u20v1 ?s6_u20v1 ?s7_u20v1
                  case s1_u20v1 | s2_u20v1 | s3_u20v1 => kernel_rfl
                  case s4_u20v1 => exact fun _ _ _ h => h
                  case s5_u20v1 => exact Or.inl ⟨rfl, by intro w hSw; (try dsimp only at hSw); go_simp; try with_reducible rfl⟩
                  case s6_u20v1 => assumption
                  try simp only [Act.put, List.setIfInBounds_toArray, List.set_cons_zero, List.set_cons_succ]
                  with_reducible refine takeI2 (i := 19) (v := ?sv_u21v1) (oi := ?s0_u21v1) (by simp only [List.getElem?_toArray, List.getElem?_cons_succ, List.getElem?_cons_zero]; exact rfl) ?s1_u21v1 ?s2_u21v1 ?s3_u21v1 ?s4_u21v1 ?s5_u21v1 ?s6_u21v1 ?s7_u21v1
                  case s1_u21v1 | s2_u21v1 | s3_u21v1 => kernel_rfl
                  case s4_u21v1 => exact fun _ _ _ h => h
                  case s5_u21v1 => exact Or.inl ⟨rfl, by intro w hSw; (try dsimp only at hSw); go_simp; try with_reducible rfl⟩
                  case s6_u21v1 => assumption
                  try simp only [Act.put, List.setIfInBounds_toArray, List.set_cons_zero, List.set_cons_succ]
                  with_reducible refine takeI2 (i := 20) (v := ?sv_u22v1) (oi := ?s0_u22v1) (by simp only [List.getElem?_toArray, List.getElem?_cons_succ, List.getElem?_cons_zero]; exact rfl) ?s1_u22v1 ?s2_u22v1 ?s3_u22v1 ?s4_u22v1 ?s5_u22v1 ?s6_u22v1 ?s7_u22v1
                  case s1_u22v1 | s2_u22v1 | s3_u22v1 => kernel_rfl
                  case s4_u22v1 => exact fun _ _ _ h => h
                  case s5_u22v1 => exact Or.inl ⟨rfl, by intro w hSw; (try dsimp only at hSw); go_simp; try with_reducible rfl⟩
                  case s6_u22v1 => assumption
                  try simp only [Act.put, List.setIfInBounds_toArray, List.set_cons_zero, List.set_cons_succ]
                  with_reducible refine takeI2 (i := 21) (v := ?sv_u23v1) (oi := ?s0_u23v1) (by simp only [List.getElem?_toArray, List.getElem?_cons_succ, List.getElem?_cons_zero]; exact rfl) ?s1_u23v1 ?s2_u23v1 ?s3_u23v1 ?s4_u23v1 ?s5_u23v1 ?s6_u23v1 ?s7_u23v1
                  case s1_u23v1 | s2_u23v1 | s3_u23v1 => kernel_rfl
                  case s4_u23v1 => exact fun _ _ _ h => h
                  case s5_u23v1 => exact Or.inl ⟨rfl, by intro w hSw; (try dsimp only at hSw); go_simp; try with_reducible rfl⟩
                  case s6_u23v1 => assumption
                  try simp only [Act.put, List.setIfInBounds_toArray, List.set_cons_zero, List.set_cons_succ]
                  with_reducible refine takeI2 (i := 22) (v := ?sv_u24v1) (oi := ?s0_u24v1) (by simp only [List.getElem?_toArray, List.getElem?_cons_succ, List.getElem?_cons_zero]; exact rfl) ?s1_u24v1 ?s2_u24v1 ?s3_u24v1 ?s4_u24v1 ?s5_u24v1 ?s6_u24v1 ?s7_u24v1
                  case s1_u24v1 | s2_u24v1 | s3_u24v1 => kernel_rfl
                  case s4_u24v1 => exact fun _ _ _ h => h
                  case s5_u24v1 => exact Or.inl ⟨rfl, by intro w hSw; (try dsimp only at hSw); go_simp; try with_reducible rfl⟩
                  case s6_u24v1 => assumption
                  try simp only [Act.put, List.setIfInBounds_toArray, List.set_cons_zero, List.set_cons_succ]
                  with_reducible refine takeI2 (i := 23) (v := ?sv_u25v1) (oi := ?s0_u25v1) (by simp only [List.getElem?_toArray, List.getElem?_cons_succ, List.getElem?_cons_zero]; exact rfl) ?s1_u25v1 ?s2_u25v1 ?s3_u25v1 ?s4_u25v1 ?s5_u25v1 ?s6_u25v1 ?s7_u25v1
                  case s1_u25v1 | s2_u25v1 | s3_u25v1 => kernel_rfl
                  case s4_u25v1 => exact fun _ _ _ h => h
                  case s5_u25v1 => exact Or.inl ⟨rfl, by intro w hSw; (try dsimp only at hSw); go_simp; try with_reducible rfl⟩
                  case s6_u25v1 => assumption
                  try simp only [Act.put, List.setIfInBounds_toArray, List.set_cons_zero, List.set_cons_succ]
                  with_reducible refine takeI2 (i := 24) (v := ?sv_u26v1) (oi := ?s0_u26v1) (by simp only [List.getElem?_toArray, List.getElem?_cons_succ, List.getElem?_cons_zero]; exact rfl) ?s1_u26v1 ?s2_u26v1 ?s3_u26v1 ?s4_u26v1 ?s5_u26v1 ?s6_u26v1 ?s7_u26v1
                  case s1_u26v1 | s2_u26v1 | s3_u26v1 => kernel_rfl
                  case s4_u26v1 => exact fun _ _ _ h => h
                  case s5_u26v1 => exact Or.inl ⟨rfl, by intro w hSw; (try dsimp only at hSw); go_simp; try with_reducible rfl⟩
                  case s6_u26v1 => assumption
                  try simp only [Act.put, List.setIfInBounds_toArray, List.set_cons_zero, List.set_cons_succ]
                  with_reducible refine takeI2 (i := 25) (v := ?sv_u27v1) (oi := ?s0_u27v1) (by simp only [List.getElem?_toArray, List.getElem?_cons_succ, List.getElem?_cons_zero]; exact rfl) ?s1_u27v1 ?s2_u27v1 ?s3_u27v1 ?s4_u27v1 ?s5_u27v1 ?s6_u27v1 ?s7_u27v1
                  case s1_u27v1 | s2_u27v1 | s3_u27v1 => kernel_rfl
                  case s4_u27v1 => exact fun _ _ _ h => h
                  case s5_u27v1 => exact Or.inl ⟨rfl, by intro w hSw; (try dsimp only at hSw); go_simp; try with_reducible rfl⟩
                  case s6_u27v1 => assumption
                  try simp only [Act.put, List.setIfInBounds_toArray, List.set_cons_zero, List.set_cons_succ]
                  with_reducible refine takeI2 (i := 26) (v := ?sv_u28v1) (oi := ?s0_u28v1) (by simp only [List.getElem?_toArray, List.getElem?_cons_succ, List.getElem?_cons_zero]; exact rfl) ?s1_u28v1 ?s2_u28v1 ?s3_u28v1 ?s4_u28v1 ?s5_u28v1 ?s6_u28v1 ?s7_u28v1
                  case s1_u28v1 | s2_u28v1 | s3_u28v1 => kernel_rfl
                  case s4_u28v1 => exact fun _ _ _ h => h
                  case s5_u28v1 => exact Or.inl ⟨rfl, by intro w hSw; (try dsimp only at hSw); go_simp; try with_reducible rfl⟩
                  case s6_u28v1 => assumption
                  try simp only [Act.put, List.setIfInBounds_toArray, List.set_cons_zero, List.set_cons_succ]
                  with_reducible refine takeI2 (i := 27) (v := ?sv_u29v1) (oi := ?s0_u29v1) (by simp only [List.getElem?_toArray, List.getElem?_cons_succ, List.getElem?_cons_zero]; exact rfl) ?s1_u29v1 ?s2_u29v1 ?s3_u29v1 ?s4_u29v1 ?s5_u29v1 ?s6_u29v1 ?s7_u29v1
                  case s1_u29v1 | s2_u29v1 | s3_u29v1 => kernel_rfl
                  case s4_u29v1 => exact fun _ _ _ h => h
                  case s5_u29v1 => exact Or.inl ⟨rfl, by intro w hSw; (try dsimp only at hSw); go_simp; try with_reducible rfl⟩
                  case s6_u29v1 => assumption
                  try simp only [Act.put, List.setIfInBounds_toArray, List.set_cons_zero, List.set_cons_succ]
                  with_reducible refine takeI2 (i := 28) (v := ?sv_u30v1) (oi := ?s0_u30v1) (by simp only [List.getElem?_toArray, List.getElem?_cons_succ, List.getElem?_cons_zero]; exact rfl) ?s1_u30v1 ?s2_u30v1 ?s3_u30v1 ?s4_u30v1 ?s5_u30v1 ?s6_u30v1 ?s7_u30v1
                  case s1_u30v1 | s2_u30v1 | s3_u30v1 => kernel_rfl
                  case s4_u30v1 => exact fun _ _ _ h => h
                  case s5_u30v1 => exact Or.inl ⟨rfl, by intro w hSw; (try dsimp only at hSw); go_simp; try with_reducible rfl⟩
                  case s6_u30v1 => assumption
                  try simp only [Act.put, List.setIfInBounds_toArray, List.set_cons_zero, List.set_cons_succ]
                  with_reducible refine takeI2 (i := 29) (v := ?sv_u31v1) (oi := ?s0_u31v1) (by simp only [List.getElem?_toArray, List.getElem?_cons_succ, List.getElem?_cons_zero]; exact rfl) ?s1_u31v1 ?s2_u31v1 ?s3_u31v1 ?s4_u31v1 ?s5_u31v1 ?s6_u31v1 ?s7_u31v1
                  case s1_u31v1 | s2_u31v1 | s3_u31v1 => kernel_rfl
                  case s4_u31v1 => exact fun _ _ _ h => h
                  case s5_u31v1 => exact Or.inl ⟨rfl, by intro w hSw; (try dsimp only at hSw); go_simp; try with_reducible rfl⟩
                  case s6_u31v1 => assumption
                  try simp only [Act.put, List.setIfInBounds_toArray, List.set_cons_zero, List.set_cons_succ]
                  with_reducible refine takeI2 (i := 30) (v := ?sv_u32v1) (oi := ?s0_u32v1) (by simp only [List.getElem?_toArray, List.getElem?_cons_succ, List.getElem?_cons_zero]; exact rfl) ?s1_u32v1 ?s2_u32v1 ?s3_u32v1 ?s4_u32v1 ?s5_u32v1 ?s6_u32v1 ?s7_u32v1
                  case s1_u32v1 | s2_u32v1 | s3_u32v1 => kernel_rfl
                  case s4_u32v1 => exact fun _ _ _ h => h
                  case s5_u32v1 => exact Or.inl ⟨rfl, by intro w hSw; (try dsimp only at hSw); go_simp; try with_reducible rfl⟩
                  case s6_u32v1 => assumption
                  try simp only [Act.put, List.setIfInBounds_toArray, List.set_cons_zero, List.set_cons_succ]
                  with_reducible refine takeI2 (i := 31) (v := undef) (oi := ?s0_u33v1) (by simp only [List.getElem?_toArray, List.getElem?_cons_succ, List.getElem?_cons_zero]; exact rfl) ?s1_u33v1 ?s2_u33v1 ?s3_u33v1 ?s4_u33v1 ?s5_u33v1 ?s6_u33v1 ?s7_u33v1
                  case s1_u33v1 | s2_u33v1 | s3_u33v1 => kernel_rfl
                  case s4_u33v1 => exact fun _ _ _ h => h
                  case s5_u33v1 => exact Or.inr ⟨rfl, rfl⟩
                  case s6_u33v1 => assumption
                  try simp only [Act.put, List.setIfInBounds_toArray, List.set_cons_zero, List.set_cons_succ]
                  with_reducible refine takeI2 (i := 32) (v := undef) (oi := ?s0_u34v1) (by simp only [List.getElem?_toArray, List.getElem?_cons_succ, List.getElem?_cons_zero]; exact rfl) ?s1_u34v1 ?s2_u34v1 ?s3_u34v1 ?s4_u34v1 ?s5_u34v1 ?s6_u34v1 ?s7_u34v1
                  case s1_u34v1 | s2_u34v1 | s3_u34v1 => kernel_rfl
                  case s4_u34v1 => exact fun _ _ _ h => h
                  case s5_u34v1 => exact Or.inr ⟨rfl, rfl⟩
                  case s6_u34v1 => assumption
                  try simp only [Act.put, List.setIfInBounds_toArray, List.set_cons_zero, List.set_cons_succ]
                  with_reducible refine takeI2 (i := 33) (v := undef) (oi := ?s0_u35v1) (by simp only [List.getElem?_toArray, List.getElem?_cons_succ, List.getElem?_cons_zero]; exact rfl) ?s1_u35v1 ?s2_u35v1 ?s3_u35v1 ?s4_u35v1 ?s5_u35v1 ?s6_u35v1 ?s7_u35v1
                  case s1_u35v1 | s2_u35v1 | s3_u35v1 => kernel_rfl
                  case s4_u35v1 => exact fun _ _ _ h => h
                  case s5_u35v1 => exact Or.inr ⟨rfl, rfl⟩
                  case s6_u35v1 => assumption
                  try simp only [Act.put, List.setIfInBounds_toArray, List.set_cons_zero, List.set_cons_succ]
                  with_reducible refine takeI2 (i := 34) (v := undef) (oi := ?s0_u36v1) (by simp only [List.getElem?_toArray, List.getElem?_cons_succ, List.getElem?_cons_zero]; exact rfl) ?s1_u36v1 ?s2_u36v1 ?s3_u36v1 ?s4_u36v1 ?s5_u36v1 ?s6_u36v1 ?s7_u36v1
                  case s1_u36v1 | s2_u36v1 | s3_u36v1 => kernel_rfl
                  case s4_u36v1 => exact fun _ _ _ h => h
                  case s5_u36v1 => exact Or.inr ⟨rfl, rfl⟩
                  case s6_u36v1 => assumption
                  try simp only [Act.put, List.setIfInBounds_toArray, List.set_cons_zero, List.set_cons_succ]
                  with_reducible refine takeI2 (i := 35) (v := undef) (oi := ?s0_u37v1) (by simp only [List.getElem?_toArray, List.getElem?_cons_succ, List.getElem?_cons_zero]; exact rfl) ?s1_u37v1 ?s2_u37v1 ?s3_u37v1 ?s4_u37v1 ?s5_u37v1 ?s6_u37v1 ?s7_u37v1
                  case s1_u37v1 | s2_u37v1 | s3_u37v1 => kernel_rfl
                  case s4_u37v1 => exact fun _ _ _ h => h
                  case s5_u37v1 => exact Or.inr ⟨rfl, rfl⟩
                  case s6_u37v1 => assumption
                  try simp only [Act.put, List.setIfInBounds_toArray, List.set_cons_zero, List.set_cons_succ]
                  with_reducible refine takeI2 (i := 36) (v := undef) (oi := ?s0_u38v1) (by simp only [List.getElem?_toArray, List.getElem?_cons_succ, List.getElem?_cons_zero]; exact rfl) ?s1_u38v1 ?s2_u38v1 ?s3_u38v1 ?s4_u38v1 ?s5_u38v1 ?s6_u38v1 ?s7_u38v1
                  case s1_u38v1 | s2_u38v1 | s3_u38v1 => kernel_rfl
                  case s4_u38v1 => exact fun _ _ _ h => h
                  case s5_u38v1 => exact Or.inr ⟨rfl, rfl⟩
                  case s6_u38v1 => assumption
                  try simp only [Act.put, List.setIfInBounds_toArray, List.set_cons_zero, List.set_cons_succ]
                  with_reducible refine takeI2 (i := 37) (v := undef) (oi := ?s0_u39v1) (by simp only [List.getElem?_toArray, List.getElem?_cons_succ, List.getElem?_cons_zero]; exact rfl) ?s1_u39v1 ?s2_u39v1 ?s3_u39v1 ?s4_u39v1 ?s5_u39v1 ?s6_u39v1 ?s7_u39v1
                  case s1_u39v1 | s2_u39v1 | s3_u39v1 => kernel_rfl
                  case s4_u39v1 => exact fun _ _ _ h => h
                  case s5_u39v1 => exact Or.inr ⟨rfl, rfl⟩
                  case s6_u39v1 => assumption
                  try simp only [Act.put, List.setIfInBounds_toArray, List.set_cons_zero, List.set_cons_succ]
                  with_reducible refine takeI2 (i := 38) (v := undef) (oi := ?s0_u40v1) (by simp only [List.getElem?_toArray, List.getElem?_cons_succ, List.getElem?_cons_zero]; exact rfl) ?s1_u40v1 ?s2_u40v1 ?s3_u40v1 ?s4_u40v1 ?s5_u40v1 ?s6_u40v1 ?s7_u40v1
                  case s1_u40v1 | s2_u40v1 | s3_u40v1 => kernel_rfl
                  case s4_u40v1 => exact fun _ _ _ h => h
                  case s5_u40v1 => exact Or.inr ⟨rfl, rfl⟩
                  case s6_u40v1 => assumption
                  try simp only [Act.put, List.setIfInBounds_toArray, List.set_cons_zero, List.set_cons_succ]
                  with_reducible refine takeI2 (i := 39) (v := undef) (oi := ?s0_u41v1) (by simp only [List.getElem?_toArray, List.getElem?_cons_succ, List.getElem?_cons_zero]; exact rfl) ?s1_u41v1 ?s2_u41v1 ?s3_u41v1 ?s4_u41v1 ?s5_u41v1 ?s6_u41v1 ?s7_u41v1
                  case s1_u41v1 | s2_u41v1 | s3_u41v1 => kernel_rfl
                  case s4_u41v1 => exact fun _ _ _ h => h
                  case s5_u41v1 => exact Or.inr ⟨rfl, rfl⟩
                  case s6_u41v1 => assumption
                  try simp only [Act.put, List.setIfInBounds_toArray, List.set_cons_zero, List.set_cons_succ]
                  with_reducible refine takeI2 (i := 40) (v := ?sv_u42v1) (oi := ?s0_u42v1) (by simp only [List.getElem?_toArray, List.getElem?_cons_succ, List.getElem?_cons_zero]; exact rfl) ?s1_u42v1 ?s2_u42v1 ?s3_u42v1 ?s4_u42v1 ?s5_u42v1 ?s6_u42v1 ?s7_u42v1
                  case s1_u42v1 | s2_u42v1 | s3_u42v1 => kernel_rfl
                  case s4_u42v1 => exact fun _ _ _ h => h
                  case s5_u42v1 => exact Or.inl ⟨rfl, by intro w hSw; (try dsimp only at hSw); go_simp; try with_reducible rfl⟩
                  case s6_u42v1 => assumption
                  try simp only [Act.put, List.setIfInBounds_toArray, List.set_cons_zero, List.set_cons_succ]
                  with_reducible refine takeI2 (i := 41) (v := ?sv_u43v1) (oi := ?s0_u43v1) (by simp only [List.getElem?_toArray, List.getElem?_cons_succ, List.getElem?_cons_zero]; exact rfl) ?s1_u43v1 ?s2_u43v1 ?s3_u43v1 ?s4_u43v1 ?s5_u43v1 ?s6_u43v1 ?s7_u43v1
                  case s1_u43v1 | s2_u43v1 | s3_u43v1 => kernel_rfl
                  case s4_u43v1 => exact fun _ _ _ h => h
                  case s5_u43v1 => exact Or.inl ⟨rfl, by intro w hSw; (try dsimp only at hSw); go_simp; try with_reducible rfl⟩
                  case s6_u43v1 => assumption
                  try simp only [Act.put, List.setIfInBounds_toArray, List.set_cons_zero, List.set_cons_succ]
                  with_reducible refine wpAnyH_done ?s1_u44v1 ?s2_u44v1 _
                  case s1_u44v1 => kernel_rfl
                  go_wp2_with (fail)
                  exact ⟨⟨j + 1, by omega, by go_num, hD.next _⟩, by simp [intOf]; omega⟩
                · have h1 := he h
                  subst h
                  subst h1
                  clear hm he
                  go_wp2_with (fail)
                  have q0 := cell_on (dr1 wr).below c0
                  have q1 := cell_on (dr1 wr).below c1
                  have q2 := cell_on (dr1 wr).below c2
                  have q3 := cell_on (dr1 wr).below c3
                  clear c0 c1 c2 c3
                  with_reducible refine region_beg (n := 42) (S := (fun w => w.cell? ⟨bH, oH + j, none⟩ = some (.int .i64 x) ∧ w.cell? ⟨bH, oH + k, none⟩ = some (.int .i64 x) ∧ w.cell? ⟨bS, oS + j, none⟩ = some (.int .i64 sx) ∧ w.cell? ⟨bS, oS + k, none⟩ = some (.int .i64 sx))) ?b1_u45v1 ?b2_u45v1 ?b3_u45v1 (fun hHeld => ?b4_u45v1)
                  case b1_u45v1 => kernel_rfl
                  case b2_u45v1 => kernel_rfl
                  case b3_u45v1 => exact ⟨q0, q1, q2, q3⟩
                  with_reducible refine takeI2 (i := 0) (v := ?sv_u46v1) (oi := ?s0_u46v1) (by simp only [List.getElem?_toArray, List.getElem?_cons_succ, List.getElem?_cons_zero]; exact rfl) ?s1_u46v1 ?s2_u46v1 ?s3_u46v1 ?s4_u46v1 ?s5_u46v1 ?s6_u46v1 ?s7_u46v1
                  case s1_u46v1 | s2_u46v1 | s3_u46v1 => kernel_rfl
                  case s4_u46v1 => exact fun _ _ _ h => h
                  case s5_u46v1 => exact Or.inl ⟨rfl, by intro w hSw; (try dsimp only at hSw); go_simp; try with_reducible rfl⟩
                  case s6_u46v1 => assumption
                  try simp only [Act.put, List.setIfInBounds_toArray, List.set_cons_zero, List.set_cons_succ]
                  with_reducible refine takeI2 (i := 1) (v := ?sv_u47v1) (oi := ?s0_u47v1) (by simp only [List.getElem?_toArray, List.getElem?_cons_succ, List.getElem?_cons_zero]; exact rfl) ?s1_u47v1 ?s2_u47v1 ?s3_u47v1 ?s4_u47v1 ?s5_u47v1 ?s6_u47v1 ?s7_u47v1
                  case s1_u47v1 | s2_u47v1 | s3_u47v1 => kernel_rfl
                  case s4_u47v1 => exact fun _ _ _ h => h
                  case s5_u47v1 => exact Or.inl ⟨rfl, by intro w hSw; (try dsimp only at hSw); go_simp; try with_reducible rfl⟩
                  case s6_u47v1 => assumption
                  try simp only [Act.put, List.setIfInBounds_toArray, List.set_cons_zero, List.set_cons_succ]
                  with_reducible refine takeI2 (i := 2) (v := ?sv_u48v1) (oi := ?s0_u48v1) (by simp only [List.getElem?_toArray, List.getElem?_cons_succ, List.getElem?_cons_zero]; exact rfl) ?s1_u48v1 ?s2_u48v1 ?s3_u48v1 ?s4_u48v1 ?s5_u48v1 ?s6_u48v1 ?s7_u48v1
                  case s1_u48v1 | s2_u48v1 | s3_u48v1 => kernel_rfl
                  case s4_u48v1 => exact fun _ _ _ h => h
                  case s5_u48v1 => exact Or.inl ⟨rfl, by intro w hSw; (try dsimp only at hSw); go_simp; try with_reducible rfl⟩
                  case s6_u48v1 => assumption
                  try simp only [Act.put, List.setIfInBounds_toArray, List.set_cons_zero, List.set_cons_succ]
                  with_reducible refine takeI2 (i := 3) (v := ?sv_u49v1) (oi := ?s0_u49v1) (by simp only [List.getElem?_toArray, List.getElem?_cons_succ, List.getElem?_cons_zero]; exact rfl) ?s1_u49v1 ?s2_u49v1 ?s3_u49v1 ?s4_u49v1 ?s5_u49v1 ?s6_u49v1 ?s7_u49v1
                  case s1_u49v1 | s2_u49v1 | s3_u49v1 => kernel_rfl
                  case s4_u49v1 => exact fun _ _ _ h => h
                  case s5_u49v1 => exact Or.inl ⟨rfl, by intro w hSw; (try dsimp only at hSw); go_simp; try with_reducible rfl⟩
                  case s6_u49v1 => assumption
                  try simp only [Act.put, List.setIfInBounds_toArray, List.set_cons_zero, List.set_cons_succ]
                  with_reducible refine takeI2 (i := 4) (v := ?sv_u50v1) (oi := ?s0_u50v1) (by simp only [List.getElem?_toArray, List.getElem?_cons_succ, List.getElem?_cons_zero]; exact rfl) ?s1_u50v1 ?s2_u50v1 ?s3_u50v1 ?s4_u50v1 ?s5_u50v1 ?s6_u50v1 ?s7_u50v1
                  case s1_u50v1 | s2_u50v1 | s3_u50v1 => kernel_rfl
                  case s4_u50v1 => exact fun _ _ _ h => h
                  case s5_u50v1 => exact Or.inl ⟨rfl, by intro w hSw; (try dsimp only at hSw); go_simp; try with_reducible rfl⟩
                  case s6_u50v1 => assumption
                  try simp only [Act.put, List.setIfInBounds_toArray, List.set_cons_zero, List.set_cons_succ]
                  with_reducible refine takeI2 (i := 5) (v := ?sv_u51v1) (oi := ?s0_u51v1) (by simp only [List.getElem?_toArray, List.getElem?_cons_succ, List.getElem?_cons_zero]; exact rfl) ?s1_u51v1 ?s2_u51v1 ?s3_u51v1 ?s4_u51v1 ?s5_u51v1 ?s6_u51v1 ?s7_u51v1
                  case s1_u51v1 | s2_u51v1 | s3_u51v1 => kernel_rfl
                  case s4_u51v1 => exact fun _ _ _ h => h
                  case s5_u51v1 => exact Or.inl ⟨rfl, by intro w hSw; (try dsimp only at hSw); go_simp; try with_reducible rfl⟩
                  case s6_u51v1 => assumption
                  try simp only [Act.put, List.setIfInBounds_toArray, List.set_cons_zero, List.set_cons_succ]
                  with_reducible refine takeI2 (i := 6) (v := ?sv_u52v1) (oi := ?s0_u52v1) (by simp only [List.getElem?_toArray, List.getElem?_cons_succ, List.getElem?_cons_zero]; exact rfl) ?s1_u52v1 ?s2_u52v1 ?s3_u52v1 ?s4_u52v1 ?s5_u52v1 ?s6_u52v1 ?s7_u52v1
                  case s1_u52v1 | s2_u52v1 | s3_u52v1 => kernel_rfl
                  case s4_u52v1 => exact fun _ _ _ h => h
                  case s5_u52v1 => exact Or.inl ⟨rfl, by intro w hSw; (try dsimp only at hSw); go_simp; try with_reducible rfl⟩
                  case s6_u52v1 => assumption
                  try simp only [Act.put, List.setIfInBounds_toArray, List.set_cons_zero, List.set_cons_succ]
                  with_reducible refine takeI2 (i := 7) (v := ?sv_u53v1) (oi := ?s0_u53v1) (by simp only [List.getElem?_toArray, List.getElem?_cons_succ, List.getElem?_cons_zero]; exact rfl) ?s1_u53v1 ?s2_u53v1 ?s3_u53v1 ?s4_u53v1 ?s5_u53v1 ?s6_u53v1 ?s7_u53v1
                  case s1_u53v1 | s2_u53v1 | s3_u53v1 => kernel_rfl
                  case s4_u53v1 => exact fun _ _ _ h => h
                  case s5_u53v1 => exact Or.inl ⟨rfl, by intro w hSw; (try dsimp only at hSw); go_simp; try with_reducible rfl⟩
                  case s6_u53v1 => assumption
                  try simp only [Act.put, List.setIfInBounds_toArray, List.set_cons_zero, List.set_cons_succ]
                  with_reducible refine takeI2 (i := 8) (v := ?sv_u54v1) (oi := ?s0_u54v1) (by simp only [List.getElem?_toArray, List.getElem?_cons_succ, List.getElem?_cons_zero]; exact rfl) ?s1_u54v1 ?s2_u54v1 ?s3_u54v1 ?s4_u54v1 ?s5_u54v1 ?s6_u54v1 ?s7_u54v1
                  case s1_u54v1 | s2_u54v1 | s3_u54v1 => kernel_rfl
                  case s4_u54v1 => exact fun _ _ _ h => h
                  case s5_u54v1 => exact Or.inl ⟨rfl, by intro w hSw; (try dsimp only at hSw); go_simp; try with_reducible rfl⟩
                  case s6_u54v1 => assumption
                  try simp only [Act.put, List.setIfInBounds_toArray, List.set_cons_zero, List.set_cons_succ]
                  with_reducible refine takeI2 (i := 9) (v := ?sv_u55v1) (oi := ?s0_u55v1) (by simp only [List.getElem?_toArray, List.getElem?_cons_succ, List.getElem?_cons_zero]; exact rfl) ?s1_u55v1 ?s2_u55v1 ?s3_u55v1 ?s4_u55v1 ?s5_u55v1 ?s6_u55v1 ?s7_u55v1
                  case s1_u55v1 | s2_u55v1 | s3_u55v1 => kernel_rfl
                  case s4_u55v1 => exact fun _ _ _ h => h
                  case s5_u55v1 => exact Or.inl ⟨rfl, by intro w hSw; (try dsimp only at hSw); go_simp; try with_reducible rfl⟩
                  case s6_u55v1 => assumption
                  try simp only [Act.put, List.setIfInBounds_toArray, List.set_cons_zero, List.set_cons_succ]
                  with_reducible refine takeI2 (i := 10) (v := undef) (oi := ?s0_u56v1) (by simp only [List.getElem?_toArray, List.getElem?_cons_succ, List.getElem?_cons_zero]; exact rfl) ?s1_u56v1 ?s2_u56v1 ?s3_u56v1 ?s4_u56v1 ?s5_u56v1 ?s6_u56v1 ?s7_u56v1
                  case s1_u56v1 | s2_u56v1 | s3_u56v1 => kernel_rfl
                  case s4_u56v1 => exact fun _ _ _ h => h
                  case s5_u56v1 => exact Or.inr ⟨rfl, rfl⟩
                  case s6_u56v1 => assumption
                  try simp only [Act.put, List.setIfInBounds_toArray, List.set_cons_zero, List.set_cons_succ]
                  with_reducible refine takeI2 (i := 11) (v := undef) (oi := ?s0_u57v1) (by simp only [List.getElem?_toArray, List.getElem?_cons_succ, List.getElem?_cons_zero]; exact rfl) ?s1_u57v1 ?s2_u57v1 ?s3_u57v1 ?s4_u57v1 ?s5_u57v1 ?s6_u57v1 ?s7_u57v1
                  case s1_u57v1 | s2_u57v1 | s3_u57v1 => kernel_rfl
                  case s4_u57v1 => exact fun _ _ _ h => h
                  case s5_u57v1 => exact Or.inr ⟨rfl, rfl⟩
                  case s6_u57v1 => assumption
                  try simp only [Act.put, List.setIfInBounds_toArray, List.set_cons_zero, List.set_cons_succ]
                  with_reducible refine takeI2 (i := 12) (v := undef) (oi := ?s0_u58v1) (by simp only [List.getElem?_toArray, List.getElem?_cons_succ, List.getElem?_cons_zero]; exact rfl) ?s1_u58v1 ?s2_u58v1 ?s3_u58v1 ?s4_u58v1 ?s5_u58v1 ?s6_u58v1 ?s7_u58v1
                  case s1_u58v1 | s2_u58v1 | s3_u58v1 => kernel_rfl
                  case s4_u58v1 => exact fun _ _ _ h => h
                  case s5_u58v1 => exact Or.inr ⟨rfl, rfl⟩
                  case s6_u58v1 => assumption
                  try simp only [Act.put, List.setIfInBounds_toArray, List.set_cons_zero, List.set_cons_succ]
                  with_reducible refine takeI2 (i := 13) (v := undef) (oi := ?s0_u59v1) (by simp only [List.getElem?_toArray, List.getElem?_cons_succ, List.getElem?_cons_zero]; exact rfl) ?s1_u59v1 ?s2_u59v1 ?s3_u59v1 ?s4_u59v1 ?s5_u59v1 ?s6_u59v1 ?s7_u59v1
                  case s1_u59v1 | s2_u59v1 | s3_u59v1 => kernel_rfl
                  case s4_u59v1 => exact fun _ _ _ h => h
                  case s5_u59v1 => exact Or.inr ⟨rfl, rfl⟩
                  case s6_u59v1 => assumption
                  try simp only [Act.put, List.setIfInBounds_toArray, List.set_cons_zero, List.set_cons_succ]
                  with_reducible refine takeI2 (i := 14) (v := undef) (oi := ?s0_u60v1) (by simp only [List.getElem?_toArray, List.getElem?_cons_succ, List.getElem?_cons_zero]; exact rfl) ?s1_u60v1 ?s2_u60v1 ?s3_u60v1 ?s4_u60v1 ?s5_u60v1 ?s6_u60v1 ?s7_u60v1
                  case s1_u60v1 | s2_u60v1 | s3_u60v1 => kernel_rfl
                  case s4_u60v1 => exact fun _ _ _ h => h
                  case s5_u60v1 => exact Or.inr ⟨rfl, rfl⟩
                  case s6_u60v1 => assumption
                  try simp only [Act.put, List.setIfInBounds_toArray, List.set_cons_zero, List.set_cons_succ]
                  with_reducible refine takeI2 (i := 15) (v := undef) (oi := ?s0_u61v1) (by simp only [List.getElem?_toArray, List.getElem?_cons_succ, List.getElem?_cons_zero]; exact rfl) ?s1_u61v1 ?s2_u61v1 ?s3_u61v1 ?s4_u61v1 ?s5_u61v1 ?s6_u61v1 ?s7_u61v1
                  case s1_u61v1 | s2_u61v1 | s3_u61v1 => kernel_rfl
                  case s4_u61v1 => exact fun _ _ _ h => h
                  case s5_u61v1 => exact Or.inr ⟨rfl, rfl⟩
                  case s6_u61v1 => assumption
                  try simp only [Act.put, List.setIfInBounds_toArray, List.set_cons_zero, List.set_cons_succ]
                  with_reducible refine takeI2 (i := 16) (v := undef) (oi := ?s0_u62v1) (by simp only [List.getElem?_toArray, List.getElem?_cons_succ, List.getElem?_cons_zero]; exact rfl) ?s1_u62v1 ?s2_u62v1 ?s3_u62v1 ?s4_u62v1 ?s5_u62v1 ?s6_u62v1 ?s7_u62v1
                  case s1_u62v1 | s2_u62v1 | s3_u62v1 => kernel_rfl
                  case s4_u62v1 => exact fun _ _ _ h => h
                  case s5_u62v1 => exact Or.inr ⟨rfl, rfl⟩
                  case s6_u62v1 => assumption
                  try simp only [Act.put, List.setIfInBounds_toArray, List.set_cons_zero, List.set_cons_succ]
                  with_reducible refine takeI2 (i := 17) (v := undef) (oi := ?s0_u63v1) (by simp only [List.getElem?_toArray, List.getElem?_cons_succ, List.getElem?_cons_zero]; exact rfl) ?s1_u63v1 ?s2_u63v1 ?s3_u63v1 ?s4_u63v1 ?s5_u63v1 ?s6_u63v1 ?s7_u63v1
                  case s1_u63v1 | s2_u63v1 | s3_u63v1 => kernel_rfl
                  case s4_u63v1 => exact fun _ _ _ h => h
                  case s5_u63v1 => exact Or.inr ⟨rfl, rfl⟩
                  case s6_u63v1 => assumption
                  try simp only [Act.put, List.setIfInBounds_toArray, List.set_cons_zero, List.set_cons_succ]
                  with_reducible refine takeI2 (i := 18) (v := undef) (oi := ?s0_u64v1) (by simp only [List.getElem?_toArray, List.getElem?_cons_succ, List.getElem?_cons_zero]; exact rfl) ?s1_u64v1 ?s2_u64v1 ?s3_u64v1 ?s4_u64v1 ?s5_u64v1 ?s6_u64v1 ?s7_u64v1
                  case s1_u64v1 | s2_u64v1 | s3_u64v1 => kernel_rfl
                  case s4_u64v1 => exact fun _ _ _ h => h
                  case s5_u64v1 => exact Or.inr ⟨rfl, rfl⟩
                  case s6_u64v1 => assumption
                  try simp only [Act.put, List.setIfInBounds_toArray, List.set_cons_zero, List.set_cons_succ]
                  with_reducible refine takeI2 (i := 19) (v := ?sv_u65v1) (oi := ?s0_u65v1) (by simp only [List.getElem?_toArray, List.getElem?_cons_succ, List.getElem?_cons_zero]; exact rfl) ?s1_u65v1 ?s2_u65v1 ?s3_u65v1 ?s4_u65v1 ?s5_u65v1 ?s6_u65v1 ?s7_u65v1
                  case s1_u65v1 | s2_u65v1 | s3_u65v1 => kernel_rfl
                  case s4_u65v1 => exact fun _ _ _ h => h
                  case s5_u65v1 => exact Or.inl ⟨rfl, by intro w hSw; (try dsimp only at hSw); go_simp; try with_reducible rfl⟩
                  case s6_u65v1 => assumption
                  try simp only [Act.put, List.setIfInBounds_toArray, List.set_cons_zero, List.set_cons_succ]
                  with_reducible refine takeI2 (i := 20) (v := ?sv_u66v1) (oi := ?s0_u66v1) (by simp only [List.getElem?_toArray, List.getElem?_cons_succ, List.getElem?_cons_zero]; exact rfl) ?s1_u66v1 ?s2_u66v1 ?s3_u66v1 ?s4_u66v1 ?s5_u66v1 ?s6_u66v1 ?s7_u66v1
                  case s1_u66v1 | s2_u66v1 | s3_u66v1 => kernel_rfl
                  case s4_u66v1 => exact fun _ _ _ h => h
                  case s5_u66v1 => exact Or.inl ⟨rfl, by intro w hSw; (try dsimp only at hSw); go_simp; try with_reducible rfl⟩
                  case s6_u66v1 => assumption
                  try simp only [Act.put, List.setIfInBounds_toArray, List.set_cons_zero, List.set_cons_succ]
                  with_reducible refine takeI2 (i := 21) (v := ?sv_u67v1) (oi := ?s0_u67v1) (by simp only [List.getElem?_toArray, List.getElem?_cons_succ, List.getElem?_cons_zero]; exact rfl) ?s1_u67v1 ?s2_u67v1 ?s3_u67v1 ?s4_u67v1 ?s5_u67v1 ?s6_u67v1 ?s7_u67v1
                  case s1_u67v1 | s2_u67v1 | s3_u67v1 => kernel_rfl
                  case s4_u67v1 => exact fun _ _ _ h => h
                  case s5_u67v1 => exact Or.inl ⟨rfl, by intro w hSw; (try dsimp only at hSw); go_simp; try with_reducible rfl⟩
                  case s6_u67v1 => assumption
                  try simp only [Act.put, List.setIfInBounds_toArray, List.set_cons_zero, List.set_cons_succ]
                  with_reducible refine takeI2 (i := 22) (v := ?sv_u68v1) (oi := ?s0_u68v1) (by simp only [List.getElem?_toArray, List.getElem?_cons_succ, List.getElem?_cons_zero]; exact rfl) ?s1_u68v1 ?s2_u68v1 ?s3_u68v1 ?s4_u68v1 ?s5_u68v1 ?s6_u68v1 ?s7_u68v1
                  case s1_u68v1 | s2_u68v1 | s3_u68v1 => kernel_rfl
                  case s4_u68v1 => exact fun _ _ _ h => h
                  case s5_u68v1 => exact Or.inl ⟨rfl, by intro w hSw; (try dsimp only at hSw); go_simp; try with_reducible rfl⟩
                  case s6_u68v1 => assumption
                  try simp only [Act.put, List.setIfInBounds_toArray, List.set_cons_zero, List.set_cons_succ]
                  with_reducible refine takeI2 (i := 23) (v := ?sv_u69v1) (oi := ?s0_u69v1) (by simp only [List.getElem?_toArray, List.getElem?_cons_succ, List.getElem?_cons_zero]; exact rfl) ?s1_u69v1 ?s2_u69v1 ?s3_u69v1 ?s4_u69v1 ?s5_u69v1 ?s6_u69v1 ?s7_u69v1
                  case s1_u69v1 | s2_u69v1 | s3_u69v1 => kernel_rfl
                  case s4_u69v1 => exact fun _ _ _ h => h
                  case s5_u69v1 => exact Or.inl ⟨rfl, by intro w hSw; (try dsimp only at hSw); go_simp; try with_reducible rfl⟩
                  case s6_u69v1 => assumption
                  try simp only [Act.put, List.setIfInBounds_toArray, List.set_cons_zero, List.set_cons_succ]
                  with_reducible refine takeI2 (i := 24) (v := ?sv_u70v1) (oi := ?s0_u70v1) (by simp only [List.getElem?_toArray, List.getElem?_cons_succ, List.getElem?_cons_zero]; exact rfl) ?s1_u70v1 ?s2_u70v1 ?s3_u70v1 ?s4_u70v1 ?s5_u70v1 ?s6_u70v1 ?s7_u70v1
                  case s1_u70v1 | s2_u70v1 | s3_u70v1 => kernel_rfl
                  case s4_u70v1 => exact fun _ _ _ h => h
                  case s5_u70v1 => exact Or.inl ⟨rfl, by intro w hSw; (try dsimp only at hSw); go_simp; try with_reducible rfl⟩
                  case s6_u70v1 => assumption
                  try simp only [Act.put, List.setIfInBounds_toArray, List.set_cons_zero, List.set_cons_succ]
                  with_reducible refine takeI2 (i := 25) (v := ?sv_u71v1) (oi := ?s0_u71v1) (by simp only [List.getElem?_toArray, List.getElem?_cons_succ, List.getElem?_cons_zero]; exact rfl) ?s1_u71v1 ?s2_u71v1 ?s3_u71v1 ?s4_u71v1 ?s5_u71v1 ?s6_u71v1 ?s7_u71v1
                  case s1_u71v1 | s2_u71v1 | s3_u71v1 => kernel_rfl
                  case s4_u71v1 => exact fun _ _ _ h => h
                  case s5_u71v1 => exact Or.inl ⟨rfl, by intro w hSw; (try dsimp only at hSw); go_simp; try with_reducible rfl⟩
                  case s6_u71v1 => assumption
                  try simp only [Act.put, List.setIfInBounds_toArray, List.set_cons_zero, List.set_cons_succ]
                  with_reducible refine takeI2 (i := 26) (v := ?sv_u72v1) (oi := ?s0_u72v1) (by simp only [List.getElem?_toArray, List.getElem?_cons_succ, List.getElem?_cons_zero]; exact rfl) ?s1_u72v1 ?s2_u72v1 ?s3_u72v1 ?s4_u72v1 ?s5_u72v1 ?s6_u72v1 ?s7_u72v1
                  case s1_u72v1 | s2_u72v1 | s3_u72v1 => kernel_rfl
                  case s4_u72v1 => exact fun _ _ _ h => h
                  case s5_u72v1 => exact Or.inl ⟨rfl, by intro w hSw; (try dsimp only at hSw); go_simp; try with_reducible rfl⟩
                  case s6_u72v1 => assumption
                  try simp only [Act.put, List.setIfInBounds_toArray, List.set_cons_zero, List.set_cons_succ]
                  with_reducible refine takeI2 (i := 27) (v := ?sv_u73v1) (oi := ?s0_u73v1) (by simp only [List.getElem?_toArray, List.getElem?_cons_succ, List.getElem?_cons_zero]; exact rfl) ?s1_u73v1 ?s2_u73v1 ?s3_u73v1 ?s4_u73v1 ?s5_u73v1 ?s6_u73v1 ?s7_u73v1
                  case s1_u73v1 | s2_u73v1 | s3_u73v1 => kernel_rfl
                  case s4_u73v1 => exact fun _ _ _ h => h
                  case s5_u73v1 => exact Or.inl ⟨rfl, by intro w hSw; (try dsimp only at hSw); go_simp; try with_reducible rfl⟩
                  case s6_u73v1 => assumption
                  try simp only [Act.put, List.setIfInBounds_toArray, List.set_cons_zero, List.set_cons_succ]
                  with_reducible refine takeI2 (i := 28) (v := ?sv_u74v1) (oi := ?s0_u74v1) (by simp only [List.getElem?_toArray, List.getElem?_cons_succ, List.getElem?_cons_zero]; exact rfl) ?s1_u74v1 ?s2_u74v1 ?s3_u74v1 ?s4_u74v1 ?s5_u74v1 ?s6_u74v1 ?s7_u74v1
                  case s1_u74v1 | s2_u74v1 | s3_u74v1 => kernel_rfl
                  case s4_u74v1 => exact fun _ _ _ h => h
                  case s5_u74v1 => exact Or.inl ⟨rfl, by intro w hSw; (try dsimp only at hSw); go_simp; try with_reducible rfl⟩
                  case s6_u74v1 => assumption
                  try simp only [Act.put, List.setIfInBounds_toArray, List.set_cons_zero, List.set_cons_succ]
                  with_reducible refine takeI2 (i := 29) (v := ?sv_u75v1) (oi := ?s0_u75v1) (by simp only [List.getElem?_toArray, List.getElem?_cons_succ, List.getElem?_cons_zero]; exact rfl) ?s1_u75v1 ?s2_u75v1 ?s3_u75v1 ?s4_u75v1 ?s5_u75v1 ?s6_u75v1 ?s7_u75v1
                  case s1_u75v1 | s2_u75v1 | s3_u75v1 => kernel_rfl
                  case s4_u75v1 => exact fun _ _ _ h => h
                  case s5_u75v1 => exact Or.inl ⟨rfl, by intro w hSw; (try dsimp only at hSw); go_simp; try with_reducible rfl⟩
                  case s6_u75v1 => assumption
                  try simp only [Act.put, List.setIfInBounds_toArray, List.set_cons_zero, List.set_cons_succ]
                  with_reducible refine takeI2 (i := 30) (v := ?sv_u76v1) (oi := ?s0_u76v1) (by simp only [List.getElem?_toArray, List.getElem?_cons_succ, List.getElem?_cons_zero]; exact rfl) ?s1_u76v1 ?s2_u76v1 ?s3_u76v1 ?s4_u76v1 ?s5_u76v1 ?s6_u76v1 ?s7_u76v1
                  case s1_u76v1 | s2_u76v1 | s3_u76v1 => kernel_rfl
                  case s4_u76v1 => exact fun _ _ _ h => h
                  case s5_u76v1 => exact Or.inl ⟨rfl, by intro w hSw; (try dsimp only at hSw); go_simp; try with_reducible rfl⟩
                  case s6_u76v1 => assumption
                  try simp only [Act.put, List.setIfInBounds_toArray, List.set_cons_zero, List.set_cons_succ]
                  with_reducible refine takeI2 (i := 31) (v := ?sv_u77v1) (oi := ?s0_u77v1) (by simp only [List.getElem?_toArray, List.getElem?_cons_succ, List.getElem?_cons_zero]; exact rfl) ?s1_u77v1 ?s2_u77v1 ?s3_u77v1 ?s4_u77v1 ?s5_u77v1 ?s6_u77v1 ?s7_u77v1
                  case s1_u77v1 | s2_u77v1 | s3_u77v1 => kernel_rfl
                  case s4_u77v1 => exact fun _ _ _ h => h
                  case s5_u77v1 => exact Or.inl ⟨rfl, by intro w hSw; (try dsimp only at hSw); go_simp; try with_reducible rfl⟩
                  case s6_u77v1 => assumption
                  try simp only [Act.put, List.setIfInBounds_toArray, List.set_cons_zero, List.set_cons_succ]
                  with_reducible refine takeI2 (i := 32) (v := ?sv_u78v1) (oi := ?s0_u78v1) (by simp only [List.getElem?_toArray, List.getElem?_cons_succ, List.getElem?_cons_zero]; exact rfl) ?s1_u78v1 ?s2_u78v1 ?s3_u78v1 ?s4_u78v1 ?s5_u78v1 ?s6_u78v1 ?s7_u78v1
                  case s1_u78v1 | s2_u78v1 | s3_u78v1 => kernel_rfl
                  case s4_u78v1 => exact fun _ _ _ h => h
                  case s5_u78v1 => exact Or.inl ⟨rfl, by intro w hSw; (try dsimp only at hSw); go_simp; try with_reducible rfl⟩
                  case s6_u78v1 => assumption
                  try simp only [Act.put, List.setIfInBounds_toArray, List.set_cons_zero, List.set_cons_succ]
                  with_reducible refine takeI2 (i := 33) (v := ?sv_u79v1) (oi := ?s0_u79v1) (by simp only [List.getElem?_toArray, List.getElem?_cons_succ, List.getElem?_cons_zero]; exact rfl) ?s1_u79v1 ?s2_u79v1 ?s3_u79v1 ?s4_u79v1 ?s5_u79v1 ?s6_u79v1 ?s7_u79v1
                  case s1_u79v1 | s2_u79v1 | s3_u79v1 => kernel_rfl
                  case s4_u79v1 => exact fun _ _ _ h => h
                  case s5_u79v1 => exact Or.inl ⟨rfl, by intro w hSw; (try dsimp only at hSw); go_simp; try with_reducible rfl⟩
                  case s6_u79v1 => assumption
                  try simp only [Act.put, List.setIfInBounds_toArray, List.set_cons_zero, List.set_cons_succ]
                  with_reducible refine takeI2 (i := 34) (v := ?sv_u80v1) (oi := ?s0_u80v1) (by simp only [List.getElem?_toArray, List.getElem?_cons_succ, List.getElem?_cons_zero]; exact rfl) ?s1_u80v1 ?s2_u80v1 ?s3_u80v1 ?s4_u80v1 ?s5_u80v1 ?s6_u80v1 ?s7_u80v1
                  case s1_u80v1 | s2_u80v1 | s3_u80v1 => kernel_rfl
                  case s4_u80v1 => exact fun _ _ _ h => h
                  case s5_u80v1 => exact Or.inl ⟨rfl, by intro w hSw; (try dsimp only at hSw); go_simp; try with_reducible rfl⟩
                  case s6_u80v1 => assumption
                  try simp only [Act.put, List.setIfInBounds_toArray, List.set_cons_zero, List.set_cons_succ]
                  with_reducible refine takeI2 (i := 35) (v := ?sv_u81v1) (oi := ?s0_u81v1) (by simp only [List.getElem?_toArray, List.getElem?_cons_succ, List.getElem?_cons_zero]; exact rfl) ?s1_u81v1 ?s2_u81v1 ?s3_u81v1 ?s4_u81v1 ?s5_u81v1 ?s6_u81v1 ?s7_u81v1
                  case s1_u81v1 | s2_u81v1 | s3_u81v1 => kernel_rfl
                  case s4_u81v1 => exact fun _ _ _ h => h
                  case s5_u81v1 => exact Or.inl ⟨rfl, by intro w hSw; (try dsimp only at hSw); go_simp; try with_reducible rfl⟩
                  case s6_u81v1 => assumption
                  try simp only [Act.put, List.setIfInBounds_toArray, List.set_cons_zero, List.set_cons_succ]
                  with_reducible refine takeI2 (i := 36) (v := ?sv_u82v1) (oi := ?s0_u82v1) (by simp only [List.getElem?_toArray, List.getElem?_cons_succ, List.getElem?_cons_zero]; exact rfl) ?s1_u82v1 ?s2_u82v1 ?s3_u82v1 ?s4_u82v1 ?s5_u82v1 ?s6_u82v1 ?s7_u82v1
                  case s1_u82v1 | s2_u82v1 | s3_u82v1 => kernel_rfl
                  case s4_u82v1 => exact fun _ _ _ h => h
                  case s5_u82v1 => exact Or.inl ⟨rfl, by intro w hSw; (try dsimp only at hSw); go_simp; try with_reducible rfl⟩
                  case s6_u82v1 => assumption
                  try simp only [Act.put, List.setIfInBounds_toArray, List.set_cons_zero, List.set_cons_succ]
                  with_reducible refine takeI2 (i := 37) (v := ?sv_u83v1) (oi := ?s0_u83v1) (by simp only [List.getElem?_toArray, List.getElem?_cons_succ, List.getElem?_cons_zero]; exact rfl) ?s1_u83v1 ?s2_u83v1 ?s3_u83v1 ?s4_u83v1 ?s5_u83v1 ?s6_u83v1 ?s7_u83v1
                  case s1_u83v1 | s2_u83v1 | s3_u83v1 => kernel_rfl
                  case s4_u83v1 => exact fun _ _ _ h => h
                  case s5_u83v1 => exact Or.inl ⟨rfl, by intro w hSw; (try dsimp only at hSw); go_simp; try with_reducible rfl⟩
                  case s6_u83v1 => assumption
                  try simp only [Act.put, List.setIfInBounds_toArray, List.set_cons_zero, List.set_cons_succ]
                  with_reducible refine takeI2 (i := 38) (v := ?sv_u84v1) (oi := ?s0_u84v1) (by simp only [List.getElem?_toArray, List.getElem?_cons_succ, List.getElem?_cons_zero]; exact rfl) ?s1_u84v1 ?s2_u84v1 ?s3_u84v1 ?s4_u84v1 ?s5_u84v1 ?s6_u84v1 ?s7_u84v1
                  case s1_u84v1 | s2_u84v1 | s3_u84v1 => kernel_rfl
                  case s4_u84v1 => exact fun _ _ _ h => h
                  case s5_u84v1 => exact Or.inl ⟨rfl, by intro w hSw; (try dsimp only at hSw); go_simp; try with_reducible rfl⟩
                  case s6_u84v1 => assumption
                  try simp only [Act.put, List.setIfInBounds_toArray, List.set_cons_zero, List.set_cons_succ]
                  with_reducible refine takeI2 (i := 39) (v := ?sv_u85v1) (oi := ?s0_u85v1) (by simp only [List.getElem?_toArray, List.getElem?_cons_succ, List.getElem?_cons_zero]; exact rfl) ?s1_u85v1 ?s2_u85v1 ?s3_u85v1 ?s4_u85v1 ?s5_u85v1 ?s6_u85v1 ?s7_u85v1
                  case s1_u85v1 | s2_u85v1 | s3_u85v1 => kernel_rfl
                  case s4_u85v1 => exact fun _ _ _ h => h
                  case s5_u85v1 => exact Or.inl ⟨rfl, by intro w hSw; (try dsimp only at hSw); go_simp; try with_reducible rfl⟩
                  case s6_u85v1 => assumption
                  try simp only [Act.put, List.setIfInBounds_toArray, List.set_cons_zero, List.set_cons_succ]
                  with_reducible refine takeI2 (i := 40) (v := ?sv_u86v1) (oi := ?s0_u86v1) (by simp only [List.getElem?_toArray, List.getElem?_cons_succ, List.getElem?_cons_zero]; exact rfl) ?s1_u86v1 ?s2_u86v1 ?s3_u86v1 ?s4_u86v1 ?s5_u86v1 ?s6_u86v1 ?s7_u86v1
                  case s1_u86v1 | s2_u86v1 | s3_u86v1 => kernel_rfl
                  case s4_u86v1 => exact fun _ _ _ h => h
                  case s5_u86v1 => exact Or.inl ⟨rfl, by intro w hSw; (try dsimp only at hSw); go_simp; try with_reducible rfl⟩
                  case s6_u86v1 => assumption
                  try simp only [Act.put, List.setIfInBounds_toArray, List.set_cons_zero, List.set_cons_succ]
                  with_reducible refine takeI2 (i := 41) (v := ?sv_u87v1) (oi := ?s0_u87v1) (by simp only [List.getElem?_toArray, List.getElem?_cons_succ, List.getElem?_cons_zero]; exact rfl) ?s1_u87v1 ?s2_u87v1 ?s3_u87v1 ?s4_u87v1 ?s5_u87v1 ?s6_u87v1 ?s7_u87v1
                  case s1_u87v1 | s2_u87v1 | s3_u87v1 => kernel_rfl
                  case s4_u87v1 => exact fun _ _ _ h => h
                  case s5_u87v1 => exact Or.inl ⟨rfl, by intro w hSw; (try dsimp only at hSw); go_simp; try with_reducible rfl⟩
                  case s6_u87v1 => assumption
                  try simp only [Act.put, List.setIfInBounds_toArray, List.set_cons_zero, List.set_cons_succ]
                  with_reducible refine wpAnyH_done ?s1_u88v1 ?s2_u88v1 _
                  case s1_u88v1 => kernel_rfl
                  go_wp2_with (fail)
                  exact ⟨⟨j + 1, by omega, by go_num, hD.next _⟩, by simp [intOf]; omega⟩
                · have h1 : decide (x < y) = false := decide_eq_false (by omega)
                  have h2 : (x == y) = false := beq_eq_false_iff_ne.2 (by omega)
                  have h3 : ¬ x = y := by omega
                  clear hm he
                  go_wp2_with (fail)
                  have q0 := cell_on (dr1 wr).below c0
                  have q1 := cell_on (dr1 wr).below c1
                  have q2 := cell_on (dr1 wr).below c2
                  have q3 := cell_on (dr1 wr).below c3
                  clear c0 c1 c2 c3
                  with_reducible refine region_beg (n := 42) (S := (fun w => w.cell? ⟨bH, oH + j, none⟩ = some (.int .i64 x) ∧ w.cell? ⟨bH, oH + k, none⟩ = some (.int .i64 y) ∧ w.cell? ⟨bS, oS + j, none⟩ = some (.int .i64 sx) ∧ w.cell? ⟨bS, oS + k, none⟩ = some (.int .i64 sy))) ?b1_u89v1 ?b2_u89v1 ?b3_u89v1 (fun hHeld => ?b4_u89v1)
                  case b1_u89v1 => kernel_rfl
                  case b2_u89v1 => kernel_rfl
                  case b3_u89v1 => exact ⟨q0, q1, q2, q3⟩
                  with_reducible refine takeI2 (i := 0) (v := ?sv_u90v1) (oi := ?s0_u90v1) (by simp only [List.getElem?_toArray, List.getElem?_cons_succ, List.getElem?_cons_zero]; exact rfl) ?s1_u90v1 ?s2_u90v1 ?s3_u90v1 ?s4_u90v1 ?s5_u90v1 ?s6_u90v1 ?s7_u90v1
                  case s1_u90v1 | s2_u90v1 | s3_u90v1 => kernel_rfl
                  case s4_u90v1 => exact fun _ _ _ h => h
                  case s5_u90v1 => exact Or.inl ⟨rfl, by intro w hSw; (try dsimp only at hSw); go_simp; try with_reducible rfl⟩
                  case s6_u90v1 => assumption
                  try simp only [Act.put, List.setIfInBounds_toArray, List.set_cons_zero, List.set_cons_succ]
                  with_reducible refine takeI2 (i := 1) (v := ?sv_u91v1) (oi := ?s0_u91v1) (by simp only [List.getElem?_toArray, List.getElem?_cons_succ, List.getElem?_cons_zero]; exact rfl) ?s1_u91v1 ?s2_u91v1 ?s3_u91v1 ?s4_u91v1 ?s5_u91v1 ?s6_u91v1 ?s7_u91v1
                  case s1_u91v1 | s2_u91v1 | s3_u91v1 => kernel_rfl
                  case s4_u91v1 => exact fun _ _ _ h => h
                  case s5_u91v1 => exact Or.inl ⟨rfl, by intro w hSw; (try dsimp only at hSw); go_simp; try with_reducible rfl⟩
                  case s6_u91v1 => assumption
                  try simp only [Act.put, List.setIfInBounds_toArray, List.set_cons_zero, List.set_cons_succ]
                  with_reducible refine takeI2 (i := 2) (v := ?sv_u92v1) (oi := ?s0_u92v1) (by simp only [List.getElem?_toArray, List.getElem?_cons_succ, List.getElem?_cons_zero]; exact rfl) ?s1_u92v1 ?s2_u92v1 ?s3_u92v1 ?s4_u92v1 ?s5_u92v1 ?s6_u92v1 ?s7_u92v1
                  case s1_u92v1 | s2_u92v1 | s3_u92v1 => kernel_rfl
                  case s4_u92v1 => exact fun _ _ _ h => h
                  case s5_u92v1 => exact Or.inl ⟨rfl, by intro w hSw; (try dsimp only at hSw); go_simp; try with_reducible rfl⟩
                  case s6_u92v1 => assumption
                  try simp only [Act.put, List.setIfInBounds_toArray, List.set_cons_zero, List.set_cons_succ]
                  with_reducible refine takeI2 (i := 3) (v := ?sv_u93v1) (oi := ?s0_u93v1) (by simp only [List.getElem?_toArray, List.getElem?_cons_succ, List.getElem?_cons_zero]; exact rfl) ?s1_u93v1 ?s2_u93v1 ?s3_u93v1 ?s4_u93v1 ?s5_u93v1 ?s6_u93v1 ?s7_u93v1
                  case s1_u93v1 | s2_u93v1 | s3_u93v1 => kernel_rfl
                  case s4_u93v1 => exact fun _ _ _ h => h
                  case s5_u93v1 => exact Or.inl ⟨rfl, by intro w hSw; (try dsimp only at hSw); go_simp; try with_reducible rfl⟩
                  case s6_u93v1 => assumption
                  try simp only [Act.put, List.setIfInBounds_toArray, List.set_cons_zero, List.set_cons_succ]
                  with_reducible refine takeI2 (i := 4) (v := ?sv_u94v1) (oi := ?s0_u94v1) (by simp only [List.getElem?_toArray, List.getElem?_cons_succ, List.getElem?_cons_zero]; exact rfl) ?s1_u94v1 ?s2_u94v1 ?s3_u94v1 ?s4_u94v1 ?s5_u94v1 ?s6_u94v1 ?s7_u94v1
                  case s1_u94v1 | s2_u94v1 | s3_u94v1 => kernel_rfl
                  case s4_u94v1 => exact fun _ _ _ h => h
                  case s5_u94v1 => exact Or.inl ⟨rfl, by intro w hSw; (try dsimp only at hSw); go_simp; try with_reducible rfl⟩
                  case s6_u94v1 => assumption
                  try simp only [Act.put, List.setIfInBounds_toArray, List.set_cons_zero, List.set_cons_succ]
                  with_reducible refine takeI2 (i := 5) (v := ?sv_u95v1) (oi := ?s0_u95v1) (by simp only [List.getElem?_toArray, List.getElem?_cons_succ, List.getElem?_cons_zero]; exact rfl) ?s1_u95v1 ?s2_u95v1 ?s3_u95v1 ?s4_u95v1 ?s5_u95v1 ?s6_u95v1 ?s7_u95v1
                  case s1_u95v1 | s2_u95v1 | s3_u95v1 => kernel_rfl
                  case s4_u95v1 => exact fun _ _ _ h => h
                  case s5_u95v1 => exact Or.inl ⟨rfl, by intro w hSw; (try dsimp only at hSw); go_simp; try with_reducible rfl⟩
                  case s6_u95v1 => assumption
                  try simp only [Act.put, List.setIfInBounds_toArray, List.set_cons_zero, List.set_cons_succ]
                  with_reducible refine takeI2 (i := 6) (v := ?sv_u96v1) (oi := ?s0_u96v1) (by simp only [List.getElem?_toArray, List.getElem?_cons_succ, List.getElem?_cons_zero]; exact rfl) ?s1_u96v1 ?s2_u96v1 ?s3_u96v1 ?s4_u96v1 ?s5_u96v1 ?s6_u96v1 ?s7_u96v1
                  case s1_u96v1 | s2_u96v1 | s3_u96v1 => kernel_rfl
                  case s4_u96v1 => exact fun _ _ _ h => h
                  case s5_u96v1 => exact Or.inl ⟨rfl, by intro w hSw; (try dsimp only at hSw); go_simp; try with_reducible rfl⟩
                  case s6_u96v1 => assumption
                  try simp only [Act.put, List.setIfInBounds_toArray, List.set_cons_zero, List.set_cons_succ]
                  with_reducible refine takeI2 (i := 7) (v := ?sv_u97v1) (oi := ?s0_u97v1) (by simp only [List.getElem?_toArray, List.getElem?_cons_succ, List.getElem?_cons_zero]; exact rfl) ?s1_u97v1 ?s2_u97v1 ?s3_u97v1 ?s4_u97v1 ?s5_u97v1 ?s6_u97v1 ?s7_u97v1
                  case s1_u97v1 | s2_u97v1 | s3_u97v1 => kernel_rfl
                  case s4_u97v1 => exact fun _ _ _ h => h
                  case s5_u97v1 => exact Or.inl ⟨rfl, by intro w hSw; (try dsimp only at hSw); go_simp; try with_reducible rfl⟩
                  case s6_u97v1 => assumption
                  try simp only [Act.put, List.setIfInBounds_toArray, List.set_cons_zero, List.set_cons_succ]
                  with_reducible refine takeI2 (i := 8) (v := ?sv_u98v1) (oi := ?s0_u98v1) (by simp only [List.getElem?_toArray, List.getElem?_cons_succ, List.getElem?_cons_zero]; exact rfl) ?s1_u98v1 ?s2_u98v1 ?s3_u98v1 ?s4_u98v1 ?s5_u98v1 ?s6_u98v1 ?s7_u98v1
                  case s1_u98v1 | s2_u98v1 | s3_u98v1 => kernel_rfl
                  case s4_u98v1 => exact fun _ _ _ h => h
                  case s5_u98v1 => exact Or.inl ⟨rfl, by intro w hSw; (try dsimp only at hSw); go_simp; try with_reducible rfl⟩
                  case s6_u98v1 => assumption
                  try simp only [Act.put, List.setIfInBounds_toArray, List.set_cons_zero, List.set_cons_succ]
                  with_reducible refine takeI2 (i := 9) (v := ?sv_u99v1) (oi := ?s0_u99v1) (by simp only [List.getElem?_toArray, List.getElem?_cons_succ, List.getElem?_cons_zero]; exact rfl) ?s1_u99v1 ?s2_u99v1 ?s3_u99v1 ?s4_u99v1 ?s5_u99v1 ?s6_u99v1 ?s7_u99v1
                  case s1_u99v1 | s2_u99v1 | s3_u99v1 => kernel_rfl
                  case s4_u99v1 => exact fun _ _ _ h => h
                  case s5_u99v1 => exact Or.inl ⟨rfl, by intro w hSw; (try dsimp only at hSw); go_simp; try with_reducible rfl⟩
                  case s6_u99v1 => assumption
                  try simp only [Act.put, List.setIfInBounds_toArray, List.set_cons_zero, List.set_cons_succ]
                  with_reducible refine takeI2 (i := 10) (v := undef) (oi := ?s0_u100v1) (by simp only [List.getElem?_toArray, List.getElem?_cons_succ, List.getElem?_cons_zero]; exact rfl) ?s1_u100v1 ?s2_u100v1 ?s3_u100v1 ?s4_u100v1 ?s5_u100v1 ?s6_u100v1 ?s7_u100v1
                  case s1_u100v1 | s2_u100v1 | s3_u100v1 => kernel_rfl
                  case s4_u100v1 => exact fun _ _ _ h => h
                  case s5_u100v1 => exact Or.inr ⟨rfl, rfl⟩
                  case s6_u100v1 => assumption
                  try simp only [Act.put, List.setIfInBounds_toArray, List.set_cons_zero, List.set_cons_succ]
                  with_reducible refine takeI2 (i := 11) (v := undef) (oi := ?s0_u101v1) (by simp only [List.getElem?_toArray, List.getElem?_cons_succ, List.getElem?_cons_zero]; exact rfl) ?s1_u101v1 ?s2_u101v1 ?s3_u101v1 ?s4_u101v1 ?s5_u101v1 ?s6_u101v1 ?s7_u101v1
                  case s1_u101v1 | s2_u101v1 | s3_u101v1 => kernel_rfl
                  case s4_u101v1 => exact fun _ _ _ h => h
                  case s5_u101v1 => exact Or.inr ⟨rfl, rfl⟩
                  case s6_u101v1 => assumption
                  try simp only [Act.put, List.setIfInBounds_toArray, List.set_cons_zero, List.set_cons_succ]
                  with_reducible refine takeI2 (i := 12) (v := undef) (oi := ?s0_u102v1) (by simp only [List.getElem?_toArray, List.getElem?_cons_succ, List.getElem?_cons_zero]; exact rfl) ?s1_u102v1 ?s2_u102v1 ?s3_u102v1 ?s4_u102v1 ?s5_u102v1 ?s6_u102v1 ?s7_u102v1
                  case s1_u102v1 | s2_u102v1 | s3_u102v1 => kernel_rfl
                  case s4_u102v1 => exact fun _ _ _ h => h
                  case s5_u102v1 => exact Or.inr ⟨rfl, rfl⟩
                  case s6_u102v1 => assumption
                  try simp only [Act.put, List.setIfInBounds_toArray, List.set_cons_zero, List.set_cons_succ]
                  with_reducible refine takeI2 (i := 13) (v := undef) (oi := ?s0_u103v1) (by simp only [List.getElem?_toArray, List.getElem?_cons_succ, List.getElem?_cons_zero]; exact rfl) ?s1_u103v1 ?s2_u103v1 ?s3_u103v1 ?s4_u103v1 ?s5_u103v1 ?s6_u103v1 ?s7_u103v1
                  case s1_u103v1 | s2_u103v1 | s3_u103v1 => kernel_rfl
                  case s4_u103v1 => exact fun _ _ _ h => h
                  case s5_u103v1 => exact Or.inr ⟨rfl, rfl⟩
                  case s6_u103v1 => assumption
                  try simp only [Act.put, List.setIfInBounds_toArray, List.set_cons_zero, List.set_cons_succ]
                  with_reducible refine takeI2 (i := 14) (v := undef) (oi := ?s0_u104v1) (by simp only [List.getElem?_toArray, List.getElem?_cons_succ, List.getElem?_cons_zero]; exact rfl) ?s1_u104v1 ?s2_u104v1 ?s3_u104v1 ?s4_u104v1 ?s5_u104v1 ?s6_u104v1 ?s7_u104v1
                  case s1_u104v1 | s2_u104v1 | s3_u104v1 => kernel_rfl
                  case s4_u104v1 => exact fun _ _ _ h => h
                  case s5_u104v1 => exact Or.inr ⟨rfl, rfl⟩
                  case s6_u104v1 => assumption
                  try simp only [Act.put, List.setIfInBounds_toArray, List.set_cons_zero, List.set_cons_succ]
                  with_reducible refine takeI2 (i := 15) (v := undef) (oi := ?s0_u105v1) (by simp only [List.getElem?_toArray, List.getElem?_cons_succ, List.getElem?_cons_zero]; exact rfl) ?s1_u105v1 ?s2_u105v1 ?s3_u105v1 ?s4_u105v1 ?s5_u105v1 ?s6_u105v1 ?s7_u105v1
                  case s1_u105v1 | s2_u105v1 | s3_u105v1 => kernel_rfl
                  case s4_u105v1 => exact fun _ _ _ h => h
                  case s5_u105v1 => exact Or.inr ⟨rfl, rfl⟩
                  case s6_u105v1 => assumption
                  try simp only [Act.put, List.setIfInBounds_toArray, List.set_cons_zero, List.set_cons_succ]
                  with_reducible refine takeI2 (i := 16) (v := undef) (oi := ?s0_u106v1) (by simp only [List.getElem?_toArray, List.getElem?_cons_succ, List.getElem?_cons_zero]; exact rfl) ?s1_u106v1 ?s2_u106v1 ?s3_u106v1 ?s4_u106v1 ?s5_u106v1 ?s6_u106v1 ?s7_u106v1
                  case s1_u106v1 | s2_u106v1 | s3_u106v1 => kernel_rfl
                  case s4_u106v1 => exact fun _ _ _ h => h
                  case s5_u106v1 => exact Or.inr ⟨rfl, rfl⟩
                  case s6_u106v1 => assumption
                  try simp only [Act.put, List.setIfInBounds_toArray, List.set_cons_zero, List.set_cons_succ]
                  with_reducible refine takeI2 (i := 17) (v := undef) (oi := ?s0_u107v1) (by simp only [List.getElem?_toArray, List.getElem?_cons_succ, List.getElem?_cons_zero]; exact rfl) ?s1_u107v1 ?s2_u107v1 ?s3_u107v1 ?s4_u107v1 ?s5_u107v1 ?s6_u107v1 ?s7_u107v1
                  case s1_u107v1 | s2_u107v1 | s3_u107v1 => kernel_rfl
                  case s4_u107v1 => exact fun _ _ _ h => h
                  case s5_u107v1 => exact Or.inr ⟨rfl, rfl⟩
                  case s6_u107v1 => assumption
                  try simp only [Act.put, List.setIfInBounds_toArray, List.set_cons_zero, List.set_cons_succ]
                  with_reducible refine takeI2 (i := 18) (v := undef) (oi := ?s0_u108v1) (by simp only [List.getElem?_toArray, List.getElem?_cons_succ, List.getElem?_cons_zero]; exact rfl) ?s1_u108v1 ?s2_u108v1 ?s3_u108v1 ?s4_u108v1 ?s5_u108v1 ?s6_u108v1 ?s7_u108v1
                  case s1_u108v1 | s2_u108v1 | s3_u108v1 => kernel_rfl
                  case s4_u108v1 => exact fun _ _ _ h => h
                  case s5_u108v1 => exact Or.inr ⟨rfl, rfl⟩
                  case s6_u108v1 => assumption
                  try simp only [Act.put, List.setIfInBounds_toArray, List.set_cons_zero, List.set_cons_succ]
                  with_reducible refine takeI2 (i := 19) (v := ?sv_u109v1) (oi := ?s0_u109v1) (by simp only [List.getElem?_toArray, List.getElem?_cons_succ, List.getElem?_cons_zero]; exact rfl) ?s1_u109v1 ?s2_u109v1 ?s3_u109v1 ?s4_u109v1 ?s5_u109v1 ?s6_u109v1 ?s7_u109v1
                  case s1_u109v1 | s2_u109v1 | s3_u109v1 => kernel_rfl
                  case s4_u109v1 => exact fun _ _ _ h => h
                  case s5_u109v1 => exact Or.inl ⟨rfl, by intro w hSw; (try dsimp only at hSw); go_simp; try with_reducible rfl⟩
                  case s6_u109v1 => assumption
                  try simp only [Act.put, List.setIfInBounds_toArray, List.set_cons_zero, List.set_cons_succ]
                  with_reducible refine takeI2 (i := 20) (v := ?sv_u110v1) (oi := ?s0_u110v1) (by simp only [List.getElem?_toArray, List.getElem?_cons_succ, List.getElem?_cons_zero]; exact rfl) ?s1_u110v1 ?s2_u110v1 ?s3_u110v1 ?s4_u110v1 ?s5_u110v1 ?s6_u110v1 ?s7_u110v1
                  case s1_u110v1 | s2_u110v1 | s3_u110v1 => kernel_rfl
                  case s4_u110v1 => exact fun _ _ _ h => h
                  case s5_u110v1 => exact Or.inl ⟨rfl, by intro w hSw; (try dsimp only at hSw); go_simp; try with_reducible rfl⟩
                  case s6_u110v1 => assumption
                  try simp only [Act.put, List.setIfInBounds_toArray, List.set_cons_zero, List.set_cons_succ]
                  with_reducible refine takeI2 (i := 21) (v := ?sv_u111v1) (oi := ?s0_u111v1) (by simp only [List.getElem?_toArray, List.getElem?_cons_succ, List.getElem?_cons_zero]; exact rfl) ?s1_u111v1 ?s2_u111v1 ?s3_u111v1 ?s4_u111v1 ?s5_u111v1 ?s6_u111v1 ?s7_u111v1
                  case s1_u111v1 | s2_u111v1 | s3_u111v1 => kernel_rfl
                  case s4_u111v1 => exact fun _ _ _ h => h
                  case s5_u111v1 => exact Or.inl ⟨rfl, by intro w hSw; (try dsimp only at hSw); go_simp; try with_reducible rfl⟩
                  case s6_u111v1 => assumption
                  try simp only [Act.put, List.setIfInBounds_toArray, List.set_cons_zero, List.set_cons_succ]
                  with_reducible refine takeI2 (i := 22) (v := ?sv_u112v1) (oi := ?s0_u112v1) (by simp only [List.getElem?_toArray, List.getElem?_cons_succ, List.getElem?_cons_zero]; exact rfl) ?s1_u112v1 ?s2_u112v1 ?s3_u112v1 ?s4_u112v1 ?s5_u112v1 ?s6_u112v1 ?s7_u112v1
                  case s1_u112v1 | s2_u112v1 | s3_u112v1 => kernel_rfl
                  case s4_u112v1 => exact fun _ _ _ h => h
                  case s5_u112v1 => exact Or.inl ⟨rfl, by intro w hSw; (try dsimp only at hSw); go_simp; try with_reducible rfl⟩
                  case s6_u112v1 => assumption
                  try simp only [Act.put, List.setIfInBounds_toArray, List.set_cons_zero, List.set_cons_succ]
                  with_reducible refine takeI2 (i := 23) (v := ?sv_u113v1) (oi := ?s0_u113v1) (by simp only [List.getElem?_toArray, List.getElem?_cons_succ, List.getElem?_cons_zero]; exact rfl) ?s1_u113v1 ?s2_u113v1 ?s3_u113v1 ?s4_u113v1 ?s5_u113v1 ?s6_u113v1 ?s7_u113v1
                  case s1_u113v1 | s2_u113v1 | s3_u113v1 => kernel_rfl
                  case s4_u113v1 => exact fun _ _ _ h => h
                  case s5_u113v1 => exact Or.inl ⟨rfl, by intro w hSw; (try dsimp only at hSw); go_simp; try with_reducible rfl⟩
                  case s6_u113v1 => assumption
                  try simp only [Act.put, List.setIfInBounds_toArray, List.set_cons_zero, List.set_cons_succ]
                  with_reducible refine takeI2 (i := 24) (v := ?sv_u114v1) (oi := ?s0_u114v1) (by simp only [List.getElem?_toArray, List.getElem?_cons_succ, List.getElem?_cons_zero]; exact rfl) ?s1_u114v1 ?s2_u114v1 ?s3_u114v1 ?s4_u114v1 ?s5_u114v1 ?s6_u114v1 ?s7_u114v1
                  case s1_u114v1 | s2_u114v1 | s3_u114v1 => kernel_rfl
                  case s4_u114v1 => exact fun _ _ _ h => h
                  case s5_u114v1 => exact Or.inl ⟨rfl, by intro w hSw; (try dsimp only at hSw); go_simp; try with_reducible rfl⟩
                  case s6_u114v1 => assumption
                  try simp only [Act.put, List.setIfInBounds_toArray, List.set_cons_zero, List.set_cons_succ]
                  with_reducible refine takeI2 (i := 25) (v := ?sv_u115v1) (oi := ?s0_u115v1) (by simp only [List.getElem?_toArray, List.getElem?_cons_succ, List.getElem?_cons_zero]; exact rfl) ?s1_u115v1 ?s2_u115v1 ?s3_u115v1 ?s4_u115v1 ?s5_u115v1 ?s6_u115v1 ?s7_u115v1
                  case s1_u115v1 | s2_u115v1 | s3_u115v1 => kernel_rfl
                  case s4_u115v1 => exact fun _ _ _ h => h
                  case s5_u115v1 => exact Or.inl ⟨rfl, by intro w hSw; (try dsimp only at hSw); go_simp; try with_reducible rfl⟩
                  case s6_u115v1 => assumption
                  try simp only [Act.put, List.setIfInBounds_toArray, List.set_cons_zero, List.set_cons_succ]
                  with_reducible refine takeI2 (i := 26) (v := ?sv_u116v1) (oi := ?s0_u116v1) (by simp only [List.getElem?_toArray, List.getElem?_cons_succ, List.getElem?_cons_zero]; exact rfl) ?s1_u116v1 ?s2_u116v1 ?s3_u116v1 ?s4_u116v1 ?s5_u116v1 ?s6_u116v1 ?s7_u116v1
                  case s1_u116v1 | s2_u116v1 | s3_u116v1 => kernel_rfl
                  case s4_u116v1 => exact fun _ _ _ h => h
                  case s5_u116v1 => exact Or.inl ⟨rfl, by intro w hSw; (try dsimp only at hSw); go_simp; try with_reducible rfl⟩
                  case s6_u116v1 => assumption
                  try simp only [Act.put, List.setIfInBounds_toArray, List.set_cons_zero, List.set_cons_succ]
                  with_reducible refine takeI2 (i := 27) (v := ?sv_u117v1) (oi := ?s0_u117v1) (by simp only [List.getElem?_toArray, List.getElem?_cons_succ, List.getElem?_cons_zero]; exact rfl) ?s1_u117v1 ?s2_u117v1 ?s3_u117v1 ?s4_u117v1 ?s5_u117v1 ?s6_u117v1 ?s7_u117v1
                  case s1_u117v1 | s2_u117v1 | s3_u117v1 => kernel_rfl
                  case s4_u117v1 => exact fun _ _ _ h => h
                  case s5_u117v1 => exact Or.inl ⟨rfl, by intro w hSw; (try dsimp only at hSw); go_simp; try with_reducible rfl⟩
                  case s6_u117v1 => assumption
                  try simp only [Act.put, List.setIfInBounds_toArray, List.set_cons_zero, List.set_cons_succ]
                  with_reducible refine takeI2 (i := 28) (v := ?sv_u118v1) (oi := ?s0_u118v1) (by simp only [List.getElem?_toArray, List.getElem?_cons_succ, List.getElem?_cons_zero]; exact rfl) ?s1_u118v1 ?s2_u118v1 ?s3_u118v1 ?s4_u118v1 ?s5_u118v1 ?s6_u118v1 ?s7_u118v1
                  case s1_u118v1 | s2_u118v1 | s3_u118v1 => kernel_rfl
                  case s4_u118v1 => exact fun _ _ _ h => h
                  case s5_u118v1 => exact Or.inl ⟨rfl, by intro w hSw; (try dsimp only at hSw); go_simp; try with_reducible rfl⟩
                  case s6_u118v1 => assumption
                  try simp only [Act.put, List.setIfInBounds_toArray, List.set_cons_zero, List.set_cons_succ]
                  with_reducible refine takeI2 (i := 29) (v := ?sv_u119v1) (oi := ?s0_u119v1) (by simp only [List.getElem?_toArray, List.getElem?_cons_succ, List.getElem?_cons_zero]; exact rfl) ?s1_u119v1 ?s2_u119v1 ?s3_u119v1 ?s4_u119v1 ?s5_u119v1 ?s6_u119v1 ?s7_u119v1
                  case s1_u119v1 | s2_u119v1 | s3_u119v1 => kernel_rfl
                  case s4_u119v1 => exact fun _ _ _ h => h
                  case s5_u119v1 => exact Or.inl ⟨rfl, by intro w hSw; (try dsimp only at hSw); go_simp; try with_reducible rfl⟩
                  case s6_u119v1 => assumption
                  try simp only [Act.put, List.setIfInBounds_toArray, List.set_cons_zero, List.set_cons_succ]
                  with_reducible refine takeI2 (i := 30) (v := ?sv_u120v1) (oi := ?s0_u120v1) (by simp only [List.getElem?_toArray, List.getElem?_cons_succ, List.getElem?_cons_zero]; exact rfl) ?s1_u120v1 ?s2_u120v1 ?s3_u120v1 ?s4_u120v1 ?s5_u120v1 ?s6_u120v1 ?s7_u120v1
                  case s1_u120v1 | s2_u120v1 | s3_u120v1 => kernel_rfl
                  case s4_u120v1 => exact fun _ _ _ h => h
                  case s5_u120v1 => exact Or.inl ⟨rfl, by intro w hSw; (try dsimp only at hSw); go_simp; try with_reducible rfl⟩
                  case s6_u120v1 => assumption
                  try simp only [Act.put, List.setIfInBounds_toArray, List.set_cons_zero, List.set_cons_succ]
                  with_reducible refine takeI2 (i := 31) (v := undef) (oi := ?s0_u121v1) (by simp only [List.getElem?_toArray, List.getElem?_cons_succ, List.getElem?_cons_zero]; exact rfl) ?s1_u121v1 ?s2_u121v1 ?s3_u121v1 ?s4_u121v1 ?s5_u121v1 ?s6_u121v1 ?s7_u121v1
                  case s1_u121v1 | s2_u121v1 | s3_u121v1 => kernel_rfl
                  case s4_u121v1 => exact fun _ _ _ h => h
                  case s5_u121v1 => exact Or.inr ⟨rfl, rfl⟩
                  case s6_u121v1 => assumption
                  try simp only [Act.put, List.setIfInBounds_toArray, List.set_cons_zero, List.set_cons_succ]
                  with_reducible refine takeI2 (i := 32) (v := undef) (oi := ?s0_u122v1) (by simp only [List.getElem?_toArray, List.getElem?_cons_succ, List.getElem?_cons_zero]; exact rfl) ?s1_u122v1 ?s2_u122v1 ?s3_u122v1 ?s4_u122v1 ?s5_u122v1 ?s6_u122v1 ?s7_u122v1
                  case s1_u122v1 | s2_u122v1 | s3_u122v1 => kernel_rfl
                  case s4_u122v1 => exact fun _ _ _ h => h
                  case s5_u122v1 => exact Or.inr ⟨rfl, rfl⟩
                  case s6_u122v1 => assumption
                  try simp only [Act.put, List.setIfInBounds_toArray, List.set_cons_zero, List.set_cons_succ]
                  with_reducible refine takeI2 (i := 33) (v := undef) (oi := ?s0_u123v1) (by simp only [List.getElem?_toArray, List.getElem?_cons_succ, List.getElem?_cons_zero]; exact rfl) ?s1_u123v1 ?s2_u123v1 ?s3_u123v1 ?s4_u123v1 ?s5_u123v1 ?s6_u123v1 ?s7_u123v1
                  case s1_u123v1 | s2_u123v1 | s3_u123v1 => kernel_rfl
                  case s4_u123v1 => exact fun _ _ _ h => h
                  case s5_u123v1 => exact Or.inr ⟨rfl, rfl⟩
                  case s6_u123v1 => assumption
                  try simp only [Act.put, List.setIfInBounds_toArray, List.set_cons_zero, List.set_cons_succ]
                  with_reducible refine takeI2 (i := 34) (v := undef) (oi := ?s0_u124v1) (by simp only [List.getElem?_toArray, List.getElem?_cons_succ, List.getElem?_cons_zero]; exact rfl) ?s1_u124v1 ?s2_u124v1 ?s3_u124v1 ?s4_u124v1 ?s5_u124v1 ?s6_u124v1 ?s7_u124v1
                  case s1_u124v1 | s2_u124v1 | s3_u124v1 => kernel_rfl
                  case s4_u124v1 => exact fun _ _ _ h => h
                  case s5_u124v1 => exact Or.inr ⟨rfl, rfl⟩
                  case s6_u124v1 => assumption
                  try simp only [Act.put, List.setIfInBounds_toArray, List.set_cons_zero, List.set_cons_succ]
                  with_reducible refine takeI2 (i := 35) (v := undef) (oi := ?s0_u125v1) (by simp only [List.getElem?_toArray, List.getElem?_cons_succ, List.getElem?_cons_zero]; exact rfl) ?s1_u125v1 ?s2_u125v1 ?s3_u125v1 ?s4_u125v1 ?s5_u125v1 ?s6_u125v1 ?s7_u125v1
                  case s1_u125v1 | s2_u125v1 | s3_u125v1 => kernel_rfl
                  case s4_u125v1 => exact fun _ _ _ h => h
                  case s5_u125v1 => exact Or.inr ⟨rfl, rfl⟩
                  case s6_u125v1 => assumption
                  try simp only [Act.put, List.setIfInBounds_toArray, List.set_cons_zero, List.set_cons_succ]
                  with_reducible refine takeI2 (i := 36) (v := undef) (oi := ?s0_u126v1) (by simp only [List.getElem?_toArray, List.getElem?_cons_succ, List.getElem?_cons_zero]; exact rfl) ?s1_u126v1 ?s2_u126v1 ?s3_u126v1 ?s4_u126v1 ?s5_u126v1 ?s6_u126v1 ?s7_u126v1
                  case s1_u126v1 | s2_u126v1 | s3_u126v1 => kernel_rfl
                  case s4_u126v1 => exact fun _ _ _ h => h
                  case s5_u126v1 => exact Or.inr ⟨rfl, rfl⟩
                  case s6_u126v1 => assumption
                  try simp only [Act.put, List.setIfInBounds_toArray, List.set_cons_zero, List.set_cons_succ]
                  with_reducible refine takeI2 (i := 37) (v := undef) (oi := ?s0_u127v1) (by simp only [List.getElem?_toArray, List.getElem?_cons_succ, List.getElem?_cons_zero]; exact rfl) ?s1_u127v1 ?s2_u127v1 ?s3_u127v1 ?s4_u127v1 ?s5_u127v1 ?s6_u127v1 ?s7_u127v1
                  case s1_u127v1 | s2_u127v1 | s3_u127v1 => kernel_rfl
                  case s4_u127v1 => exact fun _ _ _ h => h
                  case s5_u127v1 => exact Or.inr ⟨rfl, rfl⟩
                  case s6_u127v1 => assumption
                  try simp only [Act.put, List.setIfInBounds_toArray, List.set_cons_zero, List.set_cons_succ]
                  with_reducible refine takeI2 (i := 38) (v := undef) (oi := ?s0_u128v1) (by simp only [List.getElem?_toArray, List.getElem?_cons_succ, List.getElem?_cons_zero]; exact rfl) ?s1_u128v1 ?s2_u128v1 ?s3_u128v1 ?s4_u128v1 ?s5_u128v1 ?s6_u128v1 ?s7_u128v1
                  case s1_u128v1 | s2_u128v1 | s3_u128v1 => kernel_rfl
                  case s4_u128v1 => exact fun _ _ _ h => h
                  case s5_u128v1 => exact Or.inr ⟨rfl, rfl⟩
                  case s6_u128v1 => assumption
                  try simp only [Act.put, List.setIfInBounds_toArray, List.set_cons_zero, List.set_cons_succ]
                  with_reducible refine takeI2 (i := 39) (v := undef) (oi := ?s0_u129v1) (by simp only [List.getElem?_toArray, List.getElem?_cons_succ, List.getElem?_cons_zero]; exact rfl) ?s1_u129v1 ?s2_u129v1 ?s3_u129v1 ?s4_u129v1 ?s5_u129v1 ?s6_u129v1 ?s7_u129v1
                  case s1_u129v1 | s2_u129v1 | s3_u129v1 => kernel_rfl
                  case s4_u129v1 => exact fun _ _ _ h => h
                  case s5_u129v1 => exact Or.inr ⟨rfl, rfl⟩
                  case s6_u129v1 => assumption
                  try simp only [Act.put, List.setIfInBounds_toArray, List.set_cons_zero, List.set_cons_succ]
                  with_reducible refine takeI2 (i := 40) (v := ?sv_u130v1) (oi := ?s0_u130v1) (by simp only [List.getElem?_toArray, List.getElem?_cons_succ, List.getElem?_cons_zero]; exact rfl) ?s1_u130v1 ?s2_u130v1 ?s3_u130v1 ?s4_u130v1 ?s5_u130v1 ?s6_u130v1 ?s7_u130v1
                  case s1_u130v1 | s2_u130v1 | s3_u130v1 => kernel_rfl
                  case s4_u130v1 => exact fun _ _ _ h => h
                  case s5_u130v1 => exact Or.inl ⟨rfl, by intro w hSw; (try dsimp only at hSw); go_simp; try with_reducible rfl⟩
                  case s6_u130v1 => assumption
                  try simp only [Act.put, List.setIfInBounds_toArray, List.set_cons_zero, List.set_cons_succ]
                  with_reducible refine takeI2 (i := 41) (v := ?sv_u131v1) (oi := ?s0_u131v1) (by simp only [List.getElem?_toArray, List.getElem?_cons_succ, List.getElem?_cons_zero]; exact rfl) ?s1_u131v1 ?s2_u131v1 ?s3_u131v1 ?s4_u131v1 ?s5_u131v1 ?s6_u131v1 ?s7_u131v1
                  case s1_u131v1 | s2_u131v1 | s3_u131v1 => kernel_rfl
                  case s4_u131v1 => exact fun _ _ _ h => h
                  case s5_u131v1 => exact Or.inl ⟨rfl, by intro w hSw; (try dsimp only at hSw); go_simp; try with_reducible rfl⟩
                  case s6_u131v1 => assumption
                  try simp only [Act.put, List.setIfInBounds_toArray, List.set_cons_zero, List.set_cons_succ]
                  with_reducible refine wpAnyH_done ?s1_u132v1 ?s2_u132v1 _
                  case s1_u132v1 => kernel_rfl
                  go_wp2_with (fail)
                  exact ⟨⟨j + 1, by omega, by go_num, hD.next _⟩, by simp [intOf]; omega⟩
              · go_wp2_with (fail)
                exact ⟨⟨k + 1, by omega, by go_num, hD⟩, by simp [intOf]; omega⟩
          · replace hr := hr.below hD.below
            replace hB := bvia hB hD.below
            clear hD
            go_wp2_with (fail)
            refine (at_any n 4 (by omega) (by omega) _ _ _ hr).mono ?_
            rintro e w20 ⟨xe, rfl, xe0, xe1, hd⟩
            replace hB := bvia hB hd.below
            clear hd hr
            obtain ⟨kq, kqe⟩ : ∃ r, xe % 50 = r := ⟨_, rfl⟩
            have kq1 : xe.tmod 50 = kq := by rw [Int.tmod_eq_emod_of_nonneg xe0]; exact kqe
            have kq2 : 0 ≤ kq ∧ kq ≤ 49 := by omega
            obtain ⟨kn, rfl⟩ : ∃ m : Nat, kq = m := ⟨kq.toNat, by omega⟩
            have hcv := covers_yes kn (by omega)
            have HC1 := Lib.hid (fun v w' h => implCoversAll_any [[0, (kn : Int)], [(kn : Int) + 1, 60]] 0 60 v w' h)
            have HC2 := Lib.hid (fun v w' h => implCoversAll_any [[0, (kn : Int)], [(kn : Int) + 2, 60]] 0 60 v w' h)
            rw [hcv.1] at HC1
            rw [hcv.2] at HC2
            clear hcv kqe
            have HL1 := Lib.hid (covLit w20 0 kn ((kn : Int) + 1) 60)
            go_wp2_with (fail)
            refine (HC1.out _ _ HL1.out.1).mono ?_
            rintro e w21 ⟨rfl, rfl⟩
            have hB2 := bvia hB HL1.out.2
            generalize ((w20.alloc (.cells #[.int .i64 0, .int .i64 (kn : Int)] 3)).alloc (.cells #[.int .i64 ((kn : Int) + 1), .int .i64 60] 3)).alloc (.cells #[.slice (some ⟨w20.heap.size, 0, none⟩) 2 2, .slice (some ⟨w20.heap.size + 1, 0, none⟩) 2 2] 27) = w22 at hB2 ⊢
            clear HL1 hB
            have HL2 := Lib.hid (covLit w22 0 kn ((kn : Int) + 2) 60)
            go_wp2_with (fail)
            refine (HC2.out _ _ HL2.out.1).mono ?_
            rintro e w23 ⟨rfl, rfl⟩
            have hB3 := bvia hB2 HL2.out.2
            clear HL2 hB2
            go_wp2_with (fail)
            refine (HSS.out _ _ _ _).mono ?_
            rw [size_last]
            rintro e w24 ⟨rfl, rfl⟩
            go_wp2_with (fail)
            go_returns
            exact ⟨rfl, hB3⟩
      · have hG3 := hG2.1
        have HS1 := Lib.hid (fun w' => HSS.out z g s w')
        generalize shadowSize z g s = S1 at HS1 hG3
        have hG6 : decide (S1 < q) = false := decide_eq_false (by omega)
        have hgs2 : decide (g < s) = false := decide_eq_false hgs
        clear hG3 hG2 HG2 HG3
        go_wp2_with (fail)
        refine (HS1.out _).mono ?_
        rintro e w14 ⟨rfl, rfl⟩
        have HFQ := Lib.hid HCS2.out
        have hD0 := Dr.refl w13
        clear hh hs
        go_wp2_with (fail)
        go_loopw [14] (fun i wr => ∃ k : Nat, k ≤ N ∧ i = .int .i64 k ∧ Dr w13 wr) (fun i _ => N - (intOf i).toNat)
        case atStart => exact ⟨0, Nat.zero_le _, rfl, hD0⟩
        case round =>
         focus
          clear hD0
          obtain ⟨k, hk, rfl, hD⟩ := hrel
          obtain ⟨wo, hwo⟩ : ∃ wo : World, wo = wr := ⟨_, rfl⟩
          subst hwo
          by_cases hkN : k < N
          · have qk : (k : Int) < (N : Int) := by omega
            go_wp2_with (fail)
            go_loopw [15] (fun i wr => ∃ j : Nat, j ≤ k ∧ i = .int .i64 j ∧ Dr w13 wr) (fun i _ => k - (intOf i).toNat)
            case atStart => exact ⟨0, Nat.zero_le _, rfl, hD⟩
            case round =>
             focus
              clear hD
              obtain ⟨j, hj, rfl, hD⟩ := hrel
              by_cases hjk : j < k
              · obtain rfl := hah (by omega)
                obtain rfl := has (by omega)
                have qj : (j : Int) < (k : Int) := by omega
                have qjN : (j : Int) < (N : Int) := by omega
                have c0 := hD.cell (HFQ.out.1 j (by omega))
                have c1 := hD.cell (HFQ.out.1 k hkN)
                have c2 := hD.cell (HFQ.out.2 j (by omega))
                have c3 := hD.cell (HFQ.out.2 k hkN)
                have hm := HSM.out j k
                have he : f j = f k → shadowAt 20 p s (f j) = shadowAt 20 p s (f k) := fun h => by rw [h]
                generalize shadowAt 20 p s (f j) = sx at c2 hm he
                generalize shadowAt 20 p s (f k) = sy at c3 hm he
                generalize f j = x at c0 hm he
                generalize f k = y at c1 hm he
                rcases (by omega : x < y ∨ x = y ∨ y < x) with h | h | h
                · have h1 : decide (sy < sx) = false := decide_eq_false (by have := hm (by omega); omega)
                  have h2 : (x == y) = false := beq_eq_false_iff_ne.2 (by omega)
                  have h3 : ¬ x = y := by omega
                  clear hm he
                  go_wp2_with (fail)
                  have q0 := cell_on (dr1 wr).below c0
                  have q1 := cell_on (dr1 wr).below c1
                  have q2 := cell_on (dr1 wr).below c2
                  have q3 := cell_on (dr1 wr).below c3
                  clear c0 c1 c2 c3
                  with_reducible refine region_beg (n := 42) (S := (fun w => w.cell? ⟨bH, oH + j, none⟩ = some (.int .i64 x) ∧ w.cell? ⟨bH, oH + k, none⟩ = some (.int .i64 y) ∧ w.cell? ⟨bS, oS + j, none⟩ = some (.int .i64 sx) ∧ w.cell? ⟨bS, oS + k, none⟩ = some (.int .i64 sy))) ?b1_u1v2 ?b2_u1v2 ?b3_u1v2 (fun hHeld => ?b4_u1v2)
                  case b1_u1v2 => kernel_rfl
                  case b2_u1v2 => kernel_rfl
                  case b3_u1v2 => exact ⟨q0, q1, q2, q3⟩
                  with_reducible refine takeI2 (i := 0) (v := ?sv_u2v2) (oi := ?s0_u2v2) (by simp only [List.getElem?_toArray, List.getElem?_cons_succ, List.getElem?_cons_zero]; exact rfl) ?s1_u2v2 ?s2_u2v2 ?s3_u2v2 ?s4_u2v2 ?s5_u2v2 ?s6_u2v2 ?s7_u2v2
                  case s1_u2v2 | s2_u2v2 | s3_u2v2 => kernel_rfl
                  case s4_u2v2 => exact fun _ _ _ h => h
                  case s5_u2v2 => exact Or.inl ⟨rfl, by intro w hSw; (try dsimp only at hSw); go_simp; try with_reducible rfl⟩
                  case s6_u2v2 => assumption
                  try simp only [Act.put, List.setIfInBounds_toArray, List.set_cons_zero, List.set_cons_succ]
                  with_reducible refine takeI2 (i := 1) (v := ?sv_u3v2) (oi := ?s0_u3v2) (by simp only [List.getElem?_toArray, List.getElem?_cons_succ, List.getElem?_cons_zero]; exact rfl) ?s1_u3v2 ?s2_u3v2 ?s3_u3v2 ?s4_u3v2 ?s5_u3v2 ?s6_u3v2 ?s7_u3v2
                  case s1_u3v2 | s2_u3v2 | s3_u3v2 => kernel_rfl
                  case s4_u3v2 => exact fun _ _ _ h => h
                  case s5_u3v2 => exact Or.inl ⟨rfl, by intro w hSw; (try dsimp only at hSw); go_simp; try with_reducible rfl⟩
                  case s6_u3v2 => assumption
                  try simp only [Act.put, List.setIfInBounds_toArray, List.set_cons_zero, List.set_cons_succ]
                  with_reducible refine takeI2 (i := 2) (v := ?sv_u4v2) (oi := ?s0_u4v2) (by simp only [List.getElem?_toArray, List.getElem?_cons_succ, List.getElem?_cons_zero]; exact rfl) ?s1_u4v2 ?s2_u4v2 ?s3_u4v2 ?s4_u4v2 ?s5_u4v2 ?s6_u4v2 ?s7_u4v2
                  case s1_u4v2 | s2_u4v2 | s3_u4v2 => kernel_rfl
                  case s4_u4v2 => exact fun _ _ _ h => h
                  case s5_u4v2 => exact Or.inl ⟨rfl, by intro w hSw; (try dsimp only at hSw); go_simp; try with_reducible rfl⟩
                  case s6_u4v2 => assumption
                  try simp only [Act.put, List.setIfInBounds_toArray, List.set_cons_zero, List.set_cons_succ]
                  with_reducible refine takeI2 (i := 3) (v := ?sv_u5v2) (oi := ?s0_u5v2) (by simp only [List.getElem?_toArray, List.getElem?_cons_succ, List.getElem?_cons_zero]; exact rfl) ?s1_u5v2 ?s2_u5v2 ?s3_u5v2 ?s4_u5v2 ?s5_u5v2 ?s6_u5v2 ?s7_u5v2
                  case s1_u5v2 | s2_u5v2 | s3_u5v2 => kernel_rfl
                  case s4_u5v2 => exact fun _ _ _ h => h
                  case s5_u5v2 => exact Or.inl ⟨rfl, by intro w hSw; (try dsimp only at hSw); go_simp; try with_reducible rfl⟩
                  case s6_u5v2 => assumption
                  try simp only [Act.put, List.setIfInBounds_toArray, List.set_cons_zero, List.set_cons_succ]
                  with_reducible refine takeI2 (i := 4) (v := ?sv_u6v2) (oi := ?s0_u6v2) (by simp only [List.getElem?_toArray, List.getElem?_cons_succ, List.getElem?_cons_zero]; exact rfl) ?s1_u6v2 ?s2_u6v2 ?s3_u6v2 ?s4_u6v2 ?s5_u6v2 ?s6_u6v2 ?s7_u6v2
                  case s1_u6v2 | s2_u6v2 | s3_u6v2 => kernel_rfl
                  case s4_u6v2 => exact fun _ _ _ h => h
                  case s5_u6v2 => exact Or.inl ⟨rfl, by intro w hSw; (try dsimp only at hSw); go_simp; try with_reducible rfl⟩
                  case s6_u6v2 => assumption
                  try simp only [Act.put, List.setIfInBounds_toArray, List.set_cons_zero, List.set_cons_succ]
                  with_reducible refine takeI2 (i := 5) (v := ?sv_u7v2) (oi := ?s0_u7v2) (by simp only [List.getElem?_toArray, List.getElem?_cons_succ, List.getElem?_cons_zero]; exact rfl) ?s1_u7v2 ?s2_u7v2 ?s3_u7v2 ?s4_u7v2 ?s5_u7v2 ?s6_u7v2 ?s7_u7v2
                  case s1_u7v2 | s2_u7v2 | s3_u7v2 => kernel_rfl
                  case s4_u7v2 => exact fun _ _ _ h => h
                  case s5_u7v2 => exact Or.inl ⟨rfl, by intro w hSw; (try dsimp only at hSw); go_simp; try with_reducible rfl⟩
                  case s6_u7v2 => assumption
                  try simp only [Act.put, List.setIfInBounds_toArray, List.set_cons_zero, List.set_cons_succ]
                  with_reducible refine takeI2 (i := 6) (v := ?sv_u8v2) (oi := ?s0_u8v2) (by simp only [List.getElem?_toArray, List.getElem?_cons_succ, List.getElem?_cons_zero]; exact rfl) ?s1_u8v2 ?s2_u8v2 ?s3_u8v2 ?s4_u8v2 ?s5_u8v2 ?s6_u8v2 ?s7_u8v2
                  case s1_u8v2 | s2_u8v2 | s3_u8v2 => kernel_rfl
                  case s4_u8v2 => exact fun _ _ _ h => h
                  case s5_u8v2 => exact Or.inl ⟨rfl, by intro w hSw; (try dsimp only at hSw); go_simp; try with_reducible rfl⟩
                  case s6_u8v2 => assumption
                  try simp only [Act.put, List.setIfInBounds_toArray, List.set_cons_zero, List.set_cons_succ]
                  with_reducible refine takeI2 (i := 7) (v := ?sv_u9v2) (oi := ?s0_u9v2) (by simp only [List.getElem?_toArray, List.getElem?_cons_succ, List.getElem?_cons_zero]; exact rfl) ?s1_u9v2 ?s2_u9v2 ?s3_u9v2 ?s4_u9v2 ?s5_u9v2 ?s6_u9v2 ?s7_u9v2
                  case s1_u9v2 | s2_u9v2 | s3_u9v2 => kernel_rfl
                  case s4_u9v2 => exact fun _ _ _ h => h
                  case s5_u9v2 => exact Or.inl ⟨rfl, by intro w hSw; (try dsimp only at hSw); go_simp; try with_reducible rfl⟩
                  case s6_u9v2 => assumption
                  try simp only [Act.put, List.setIfInBounds_toArray, List.set_cons_zero, List.set_cons_succ]
                  with_reducible refine takeI2 (i := 8) (v := ?sv_u10v2) (oi := ?s0_u10v2) (by simp only [List.getElem?_toArray, List.getElem?_cons_succ, List.getElem?_cons_zero]; exact rfl) ?s1_u10v2 ?s2_u10v2 ?s3_u10v2 ?s4_u10v2 ?s5_u10v2 ?s6_u10v2 ?s7_u10v2
                  case s1_u10v2 | s2_u10v2 | s3_u10v2 => kernel_rfl
                  case s4_u10v2 => exact fun _ _ _ h => h
                  case s5_u10v2 => exact Or.inl ⟨rfl, by intro w hSw; (try dsimp only at hSw); go_simp; try with_reducible rfl⟩
                  case s6_u10v2 => assumption
                  try simp only [Act.put, List.setIfInBounds_toArray, List.set_cons_zero, List.set_cons_succ]
                  with_reducible refine takeI2 (i := 9) (v := ?sv_u11v2) (oi := ?s0_u11v2) (by simp only [List.getElem?_toArray, List.getElem?_cons_succ, List.getElem?_cons_zero]; exact rfl) ?s1_u11v2 ?s2_u11v2 ?s3_u11v2 ?s4_u11v2 ?s5_u11v2 ?s6_u11v2 ?s7_u11v2
                  case s1_u11v2 | s2_u11v2 | s3_u11v2 => kernel_rfl
                  case s4_u11v2 => exact fun _ _ _ h => h
                  case s5_u11v2 => exact Or.inl ⟨rfl, by intro w hSw; (try dsimp only at hSw); go_simp; try with_reducible rfl⟩
                  case s6_u11v2 => assumption
                  try simp only [Act.put, List.setIfInBounds_toArray, List.set_cons_zero, List.set_cons_succ]
                  with_reducible refine takeI2 (i := 10) (v := ?sv_u12v2) (oi := ?s0_u12v2) (by simp only [List.getElem?_toArray, List.getElem?_cons_succ, List.getElem?_cons_zero]; exact rfl) ?s1_u12v2 ?s2_u12v2 ?s3_u12v2 ?s4_u12v2 ?s5_u12v2 ?s6_u12v2 ?s7_u12v2
                  case s1_u12v2 | s2_u12v2 | s3_u12v2 => kernel_rfl
                  case s4_u12v2 => exact fun _ _ _ h => h
                  case s5_u12v2 => exact Or.inl ⟨rfl, by intro w hSw; (try dsimp only at hSw); go_simp; try with_reducible rfl⟩
                  case s6_u12v2 => assumption
                  try simp only [Act.put, List.setIfInBounds_toArray, List.set_cons_zero, List.set_cons_succ]
                  with_reducible refine takeI2 (i := 11) (v := ?sv_u13v2) (oi := ?s0_u13v2) (by simp only [List.getElem?_toArray, List.getElem?_cons_succ, List.getElem?_cons_zero]; exact rfl) ?s1_u13v2 ?s2_u13v2 ?s3_u13v2 ?s4_u13v2 ?s5_u13v2 ?s6_u13v2 ?s7_u13v2
                  case s1_u13v2 | s2_u13v2 | s3_u13v2 => kernel_rfl
                  case s4_u13v2 => exact fun _ _ _ h => h
                  case s5_u13v2 => exact Or.inl ⟨rfl, by intro w hSw; (try dsimp only at hSw); go_simp; try with_reducible rfl⟩
                  case s6_u13v2 => assumption
                  try simp only [Act.put, List.setIfInBounds_toArray, List.set_cons_zero, List.set_cons_succ]
                  with_reducible refine takeI2 (i := 12) (v := ?sv_u14v2) (oi := ?s0_u14v2) (by simp only [List.getElem?_toArray, List.getElem?_cons_succ, List.getElem?_cons_zero]; exact rfl) ?s1_u14v2 ?s2_u14v2 ?s3_u14v2 ?s4_u14v2 ?s5_u14v2 ?s6_u14v2 ?s7_u14v2
                  case s1_u14v2 | s2_u14v2 | s3_u14v2 => kernel_rfl
                  case s4_u14v2 => exact fun _ _ _ h => h
                  case s5_u14v2 => exact Or.inl ⟨rfl, by intro w hSw; (try dsimp only at hSw); go_simp; try with_reducible rfl⟩
                  case s6_u14v2 => assumption
                  try simp only [Act.put, List.setIfInBounds_toArray, List.set_cons_zero, List.set_cons_succ]
                  with_reducible refine takeI2 (i := 13) (v := ?sv_u15v2) (oi := ?s0_u15v2) (by simp only [List.getElem?_toArray, List.getElem?_cons_succ, List.getElem?_cons_zero]; exact rfl) ?s1_u15v2 ?s2_u15v2 ?s3_u15v2 ?s4_u15v2 ?s5_u15v2 ?s6_u15v2 ?s7_u15v2
                  case s1_u15v2 | s2_u15v2 | s3_u15v2 => kernel_rfl
                  case s4_u15v2 => exact fun _ _ _ h => h
                  case s5_u15v2 => exact Or.inl ⟨rfl, by intro w hSw; (try dsimp only at hSw); go_simp; try with_reducible rfl⟩
                  case s6_u15v2 => assumption
                  try simp only [Act.put, List.setIfInBounds_toArray, List.set_cons_zero, List.set_cons_succ]
                  with_reducible refine takeI2 (i := 14) (v := ?sv_u16v2) (oi := ?s0_u16v2) (by simp only [List.getElem?_toArray, List.getElem?_cons_succ, List.getElem?_cons_zero]; exact rfl) ?s1_u16v2 ?s2_u16v2 ?s3_u16v2 ?s4_u16v2 ?s5_u16v2 ?s6_u16v2 ?s7_u16v2
                  case s1_u16v2 | s2_u16v2 | s3_u16v2 => kernel_rfl
                  case s4_u16v2 => exact fun _ _ _ h => h
                  case s5_u16v2 => exact Or.inl ⟨rfl, by intro w hSw; (try dsimp only at hSw); go_simp; try with_reducible rfl⟩
                  case s6_u16v2 => assumption
                  try simp only [Act.put, List.setIfInBounds_toArray, List.set_cons_zero, List.set_cons_succ]
                  with_reducible refine takeI2 (i := 15) (v := ?sv_u17v2) (oi := ?s0_u17v2) (by simp only [List.getElem?_toArray, List.getElem?_cons_succ, List.getElem?_cons_zero]; exact rfl) ?s1_u17v2 ?s2_u17v2 ?s3_u17v2 ?s4_u17v2 ?s5_u17v2 ?s6_u17v2 ?s7_u17v2
                  case s1_u17v2 | s2_u17v2 | s3_u17v2 => kernel_rfl
                  case s4_u17v2 => exact fun _ _ _ h => h
                  case s5_u17v2 => exact Or.inl ⟨rfl, by intro w hSw; (try dsimp only at hSw); go_simp; try with_reducible rfl⟩
                  case s6_u17v2 => assumption
                  try simp only [Act.put, List.setIfInBounds_toArray, List.set_cons_zero, List.set_cons_succ]
                  with_reducible refine takeI2 (i := 16) (v := ?sv_u18v2) (oi := ?s0_u18v2) (by simp only [List.getElem?_toArray, List.getElem?_cons_succ, List.getElem?_cons_zero]; exact rfl) ?s1_u18v2 ?s2_u18v2 ?s3_u18v2 ?s4_u18v2 ?s5_u18v2 ?s6_u18v2 ?s7_u18v2
                  case s1_u18v2 | s2_u18v2 | s3_u18v2 => kernel_rfl
                  case s4_u18v2 => exact fun _ _ _ h => h
                  case s5_u18v2 => exact Or.inl ⟨rfl, by intro w hSw; (try dsimp only at hSw); go_simp; try with_reducible rfl⟩
                  case s6_u18v2 => assumption
                  try simp only [Act.put, List.setIfInBounds_toArray, List.set_cons_zero, List.set_cons_succ]
                  with_reducible refine takeI2 (i := 17) (v := ?sv_u19v2) (oi := ?s0_u19v2) (by simp only [List.getElem?_toArray, List.getElem?_cons_succ, List.getElem?_cons_zero]; exact rfl) ?s1_u19v2 ?s2_u19v2 ?s3_u19v2 ?s4_u19v2 ?s5_u19v2 ?s6_u19v2 ?s7_u19v2
                  case s1_u19v2 | s2_u19v2 | s3_u19v2 => kernel_rfl
                  case s4_u19v2 => exact fun _ _ _ h => h
                  case s5_u19v2 => exact Or.inl ⟨rfl, by intro w hSw; (try dsimp only at hSw); go_simp; try with_reducible rfl⟩
                  case s6_u19v2 => assumption
                  try simp only [Act.put, List.setIfInBounds_toArray, List.set_cons_zero, List.set_cons_succ]
                  with_reducible refine takeI2 (i := 18) (v := ?sv_u20v2) (oi := ?s0_u20v2) (by simp only [List.getElem?_toArray, List.getElem?_cons_succ, List.getElem?_cons_zero]; exact rfl) ?s1_u20v2 ?s2_u20v2 ?s3_u20v2 ?s4_u20v2 ?s5_u20v2 ?s6_u20v2 ?s7_u20v2
                  case s1_u20v2 | s2_u20v2 | s3_u20v2 => kernel_rfl
                  case s4_u20v2 => exact fun _ _ _ h => h
                  case s5_u20v2 => exact Or.inl ⟨rfl, by intro w hSw; (try dsimp only at hSw); go_simp; try with_reducible rfl⟩
                  case s6_u20v2 => assumption
                  try simp only [Act.put, List.setIfInBounds_toArray, List.set_cons_zero, List.set_cons_succ]
                  with_reducible refine takeI2 (i := 19) (v := ?sv_u21v2) (oi := ?s0_u21v2) (by simp only [List.getElem?_toArray, List.getElem?_cons_succ, List.getElem?_cons_zero]; exact rfl) ?s1_u21v2 ?s2_u21v2 ?s3_u21v2 ?s4_u21v2 ?s5_u21v2 ?s6_u21v2 ?s7_u21v2
                  case s1_u21v2 | s2_u21v2 | s3_u21v2 => kernel_rfl
                  case s4_u21v2 => exact fun _ _ _ h => h
                  case s5_u21v2 => exact Or.inl ⟨rfl, by intro w hSw; (try dsimp only at hSw); go_simp; try with_reducible rfl⟩
                  case s6_u21v2 => assumption
                  try simp only [Act.put, List.setIfInBounds_toArray, List.set_cons_zero, List.set_cons_succ]
                  with_reducible refine takeI2 (i := 20) (v := ?sv_u22v2) (oi := ?s0_u22v2) (by simp only [List.getElem?_toArray, List.getElem?_cons_succ, List.getElem?_cons_zero]; exact rfl) ?s1_u22v2 ?s2_u22v2 ?s3_u22v2 ?s4_u22v2 ?s5_u22v2 ?s6_u22v2 ?s7_u22v2
                  case s1_u22v2 | s2_u22v2 | s3_u22v2 => kernel_rfl
                  case s4_u22v2 => exact fun _ _ _ h => h
                  case s5_u22v2 => exact Or.inl ⟨rfl, by intro w hSw; (try dsimp only at hSw); go_simp; try with_reducible rfl⟩
                  case s6_u22v2 => assumption
                  try simp only [Act.put, List.setIfInBounds_toArray, List.set_cons_zero, List.set_cons_succ]
                  with_reducible refine takeI2 (i := 21) (v := ?sv_u23v2) (oi := ?s0_u23v2) (by simp only [List.getElem?_toArray, List.getElem?_cons_succ, List.getElem?_cons_zero]; exact rfl) ?s1_u23v2 ?s2_u23v2 ?s3_u23v2 ?s4_u23v2 ?s5_u23v2 ?s6_u23v2 ?s7_u23v2
                  case s1_u23v2 | s2_u23v2 | s3_u23v2 => kernel_rfl
                  case s4_u23v2 => exact fun _ _ _ h => h
                  case s5_u23v2 => exact Or.inl ⟨rfl, by intro w hSw; (try dsimp only at hSw); go_simp; try with_reducible rfl⟩
                  case s6_u23v2 => assumption
                  try simp only [Act.put, List.setIfInBounds_toArray, List.set_cons_zero, List.set_cons_succ]
                  with_reducible refine takeI2 (i := 22) (v := ?sv_u24v2) (oi := ?s0_u24v2) (by simp only [List.getElem?_toArray, List.getElem?_cons_succ, List.getElem?_cons_zero]; exact rfl) ?s1_u24v2 ?s2_u24v2 ?s3_u24v2 ?s4_u24v2 ?s5_u24v2 ?s6_u24v2 ?s7_u24v2
                  case s1_u24v2 | s2_u24v2 | s3_u24v2 => kernel_rfl
                  case s4_u24v2 => exact fun _ _ _ h => h
                  case s5_u24v2 => exact Or.inl ⟨rfl, by intro w hSw; (try dsimp only at hSw); go_simp; try with_reducible rfl⟩
                  case s6_u24v2 => assumption
                  try simp only [Act.put, List.setIfInBounds_toArray, List.set_cons_zero, List.set_cons_succ]
                  with_reducible refine takeI2 (i := 23) (v := ?sv_u25v2) (oi := ?s0_u25v2) (by simp only [List.getElem?_toArray, List.getElem?_cons_succ, List.getElem?_cons_zero]; exact rfl) ?s1_u25v2 ?s2_u25v2 ?s3_u25v2 ?s4_u25v2 ?s5_u25v2 ?s6_u25v2 ?s7_u25v2
                  case s1_u25v2 | s2_u25v2 | s3_u25v2 => kernel_rfl
                  case s4_u25v2 => exact fun _ _ _ h => h
                  case s5_u25v2 => exact Or.inl ⟨rfl, by intro w hSw; (try dsimp only at hSw); go_simp; try with_reducible rfl⟩
                  case s6_u25v2 => assumption
                  try simp only [Act.put, List.setIfInBounds_toArray, List.set_cons_zero, List.set_cons_succ]
                  with_reducible refine takeI2 (i := 24) (v := ?sv_u26v2) (oi := ?s0_u26v2) (by simp only [List.getElem?_toArray, List.getElem?_cons_succ, List.getElem?_cons_zero]; exact rfl) ?s1_u26v2 ?s2_u26v2 ?s3_u26v2 ?s4_u26v2 ?s5_u26v2 ?s6_u26v2 ?s7_u26v2
                  case s1_u26v2 | s2_u26v2 | s3_u26v2 => kernel_rfl
                  case s4_u26v2 => exact fun _ _ _ h => h
                  case s5_u26v2 => exact Or.inl ⟨rfl, by intro w hSw; (try dsimp only at hSw); go_simp; try with_reducible rfl⟩
                  case s6_u26v2 => assumption
                  try simp only [Act.put, List.setIfInBounds_toArray, List.set_cons_zero, List.set_cons_succ]
                  with_reducible refine takeI2 (i := 25) (v := ?sv_u27v2) (oi := ?s0_u27v2) (by simp only [List.getElem?_toArray, List.getElem?_cons_succ, List.getElem?_cons_zero]; exact rfl) ?s1_u27v2 ?s2_u27v2 ?s3_u27v2 ?s4_u27v2 ?s5_u27v2 ?s6_u27v2 ?s7_u27v2
                  case s1_u27v2 | s2_u27v2 | s3_u27v2 => kernel_rfl
                  case s4_u27v2 => exact fun _ _ _ h => h
                  case s5_u27v2 => exact Or.inl ⟨rfl, by intro w hSw; (try dsimp only at hSw); go_simp; try with_reducible rfl⟩
                  case s6_u27v2 => assumption
                  try simp only [Act.put, List.setIfInBounds_toArray, List.set_cons_zero, List.set_cons_succ]
                  with_reducible refine takeI2 (i := 26) (v := ?sv_u28v2) (oi := ?s0_u28v2) (by simp only [List.getElem?_toArray, List.getElem?_cons_succ, List.getElem?_cons_zero]; exact rfl) ?s1_u28v2 ?s2_u28v2 ?s3_u28v2 ?s4_u28v2 ?s5_u28v2 ?s6_u28v2 ?s7_u28v2
                  case s1_u28v2 | s2_u28v2 | s3_u28v2 => kernel_rfl
                  case s4_u28v2 => exact fun _ _ _ h => h
                  case s5_u28v2 => exact Or.inl ⟨rfl, by intro w hSw; (try dsimp only at hSw); go_simp; try with_reducible rfl⟩
                  case s6_u28v2 => assumption
                  try simp only [Act.put, List.setIfInBounds_toArray, List.set_cons_zero, List.set_cons_succ]
                  with_reducible refine takeI2 (i := 27) (v := ?sv_u29v2) (oi := ?s0_u29v2) (by simp only [List.getElem?_toArray, List.getElem?_cons_succ, List.getElem?_cons_zero]; exact rfl) ?s1_u29v2 ?s2_u29v2 ?s3_u29v2 ?s4_u29v2 ?s5_u29v2 ?s6_u29v2 ?s7_u29v2
                  case s1_u29v2 | s2_u29v2 | s3_u29v2 => kernel_rfl
                  case s4_u29v2 => exact fun _ _ _ h => h
                  case s5_u29v2 => exact Or.inl ⟨rfl, by intro w hSw; (try dsimp only at hSw); go_simp; try with_reducible rfl⟩
                  case s6_u29v2 => assumption
                  try simp only [Act.put, List.setIfInBounds_toArray, List.set_cons_zero, List.set_cons_succ]
                  with_reducible refine takeI2 (i := 28) (v := ?sv_u30v2) (oi := ?s0_u30v2) (by simp only [List.getElem?_toArray, List.getElem?_cons_succ, List.getElem?_cons_zero]; exact rfl) ?s1_u30v2 ?s2_u30v2 ?s3_u30v2 ?s4_u30v2 ?s5_u30v2 ?s6_u30v2 ?s7_u30v2
                  case s1_u30v2 | s2_u30v2 | s3_u30v2 => kernel_rfl
                  case s4_u30v2 => exact fun _ _ _ h => h
                  case s5_u30v2 => exact Or.inl ⟨rfl, by intro w hSw; (try dsimp only at hSw); go_simp; try with_reducible rfl⟩
                  case s6_u30v2 => assumption
                  try simp only [Act.put, List.setIfInBounds_toArray, List.set_cons_zero, List.set_cons_succ]
                  with_reducible refine takeI2 (i := 29) (v := ?sv_u31v2) (oi := ?s0_u31v2) (by simp only [List.getElem?_toArray, List.getElem?_cons_succ, List.getElem?_cons_zero]; exact rfl) ?s1_u31v2 ?s2_u31v2 ?s3_u31v2 ?s4_u31v2 ?s5_u31v2 ?s6_u31v2 ?s7_u31v2
                  case s1_u31v2 | s2_u31v2 | s3_u31v2 => kernel_rfl
                  case s4_u31v2 => exact fun _ _ _ h => h
                  case s5_u31v2 => exact Or.inl ⟨rfl, by intro w hSw; (try dsimp only at hSw); go_simp; try with_reducible rfl⟩
                  case s6_u31v2 => assumption
                  try simp only [Act.put, List.setIfInBounds_toArray, List.set_cons_zero, List.set_cons_succ]
                  with_reducible refine takeI2 (i := 30) (v := ?sv_u32v2) (oi := ?s0_u32v2) (by simp only [List.getElem?_toArray, List.getElem?_cons_succ, List.getElem?_cons_zero]; exact rfl) ?s1_u32v2 ?s2_u32v2 ?s3_u32v2 ?s4_u32v2 ?s5_u32v2 ?s6_u32v2 ?s7_u32v2
                  case s1_u32v2 | s2_u32v2 | s3_u32v2 => kernel_rfl
                  case s4_u32v2 => exact fun _ _ _ h => h
                  case s5_u32v2 => exact Or.inl ⟨rfl, by intro w hSw; (try dsimp only at hSw); go_simp; try with_reducible rfl⟩
                  case s6_u32v2 => assumption
                  try simp only [Act.put, List.setIfInBounds_toArray, List.set_cons_zero, List.set_cons_succ]
                  with_reducible refine takeI2 (i := 31) (v := undef) (oi := ?s0_u33v2) (by simp only [List.getElem?_toArray, List.getElem?_cons_succ, List.getElem?_cons_zero]; exact rfl) ?s1_u33v2 ?s2_u33v2 ?s3_u33v2 ?s4_u33v2 ?s5_u33v2 ?s6_u33v2 ?s7_u33v2
                  case s1_u33v2 | s2_u33v2 | s3_u33v2 => kernel_rfl
                  case s4_u33v2 => exact fun _ _ _ h => h
                  case s5_u33v2 => exact Or.inr ⟨rfl, rfl⟩
                  case s6_u33v2 => assumption
                  try simp only [Act.put, List.setIfInBounds_toArray, List.set_cons_zero, List.set_cons_succ]
                  with_reducible refine takeI2 (i := 32) (v := undef) (oi := ?s0_u34v2) (by simp only [List.getElem?_toArray, List.getElem?_cons_succ, List.getElem?_cons_zero]; exact rfl) ?s1_u34v2 ?s2_u34v2 ?s3_u34v2 ?s4_u34v2 ?s5_u34v2 ?s6_u34v2 ?s7_u34v2
                  case s1_u34v2 | s2_u34v2 | s3_u34v2 => kernel_rfl
                  case s4_u34v2 => exact fun _ _ _ h => h
                  case s5_u34v2 => exact Or.inr ⟨rfl, rfl⟩
                  case s6_u34v2 => assumption
                  try simp only [Act.put, List.setIfInBounds_toArray, List.set_cons_zero, List.set_cons_succ]
                  with_reducible refine takeI2 (i := 33) (v := undef) (oi := ?s0_u35v2) (by simp only [List.getElem?_toArray, List.getElem?_cons_succ, List.getElem?_cons_zero]; exact rfl) ?s1_u35v2 ?s2_u35v2 ?s3_u35v2 ?s4_u35v2 ?s5_u35v2 ?s6_u35v2 ?s7_u35v2
                  case s1_u35v2 | s2_u35v2 | s3_u35v2 => kernel_rfl
                  case s4_u35v2 => exact fun _ _ _ h => h
                  case s5_u35v2 => exact Or.inr ⟨rfl, rfl⟩
                  case s6_u35v2 => assumption
                  try simp only [Act.put, List.setIfInBounds_toArray, List.set_cons_zero, List.set_cons_succ]
                  with_reducible refine takeI2 (i := 34) (v := undef) (oi := ?s0_u36v2) (by simp only [List.getElem?_toArray, List.getElem?_cons_succ, List.getElem?_cons_zero]; exact rfl) ?s1_u36v2 ?s2_u36v2 ?s3_u36v2 ?s4_u36v2 ?s5_u36v2 ?s6_u36v2 ?s7_u36v2
                  case s1_u36v2 | s2_u36v2 | s3_u36v2 => kernel_rfl
                  case s4_u36v2 => exact fun _ _ _ h => h
                  case s5_u36v2 => exact Or.inr ⟨rfl, rfl⟩
                  case s6_u36v2 => assumption
                  try simp only [Act.put, List.setIfInBounds_toArray, List.set_cons_zero, List.set_cons_succ]
                  with_reducible refine takeI2 (i := 35) (v := undef) (oi := ?s0_u37v2) (by simp only [List.getElem?_toArray, List.getElem?_cons_succ, List.getElem?_cons_zero]; exact rfl) ?s1_u37v2 ?s2_u37v2 ?s3_u37v2 ?s4_u37v2 ?s5_u37v2 ?s6_u37v2 ?s7_u37v2
                  case s1_u37v2 | s2_u37v2 | s3_u37v2 => kernel_rfl
                  case s4_u37v2 => exact fun _ _ _ h => h
                  case s5_u37v2 => exact Or.inr ⟨rfl, rfl⟩
                  case s6_u37v2 => assumption
                  try simp only [Act.put, List.setIfInBounds_toArray, List.set_cons_zero, List.set_cons_succ]
                  with_reducible refine takeI2 (i := 36) (v := undef) (oi := ?s0_u38v2) (by simp only [List.getElem?_toArray, List.getElem?_cons_succ, List.getElem?_cons_zero]; exact rfl) ?s1_u38v2 ?s2_u38v2 ?s3_u38v2 ?s4_u38v2 ?s5_u38v2 ?s6_u38v2 ?s7_u38v2
                  case s1_u38v2 | s2_u38v2 | s3_u38v2 => kernel_rfl
                  case s4_u38v2 => exact fun _ _ _ h => h
                  case s5_u38v2 => exact Or.inr ⟨rfl, rfl⟩
                  case s6_u38v2 => assumption
                  try simp only [Act.put, List.setIfInBounds_toArray, List.set_cons_zero, List.set_cons_succ]
                  with_reducible refine takeI2 (i := 37) (v := undef) (oi := ?s0_u39v2) (by simp only [List.getElem?_toArray, List.getElem?_cons_succ, List.getElem?_cons_zero]; exact rfl) ?s1_u39v2 ?s2_u39v2 ?s3_u39v2 ?s4_u39v2 ?s5_u39v2 ?s6_u39v2 ?s7_u39v2
                  case s1_u39v2 | s2_u39v2 | s3_u39v2 => kernel_rfl
                  case s4_u39v2 => exact fun _ _ _ h => h
                  case s5_u39v2 => exact Or.inr ⟨rfl, rfl⟩
                  case s6_u39v2 => assumption
                  try simp only [Act.put, List.setIfInBounds_toArray, List.set_cons_zero, List.set_cons_succ]
                  with_reducible refine takeI2 (i := 38) (v := undef) (oi := ?s0_u40v2) (by simp only [List.getElem?_toArray, List.getElem?_cons_succ, List.getElem?_cons_zero]; exact rfl) ?s1_u40v2 ?s2_u40v2 ?s3_u40v2 ?s4_u40v2 ?s5_u40v2 ?s6_u40v2 ?s7_u40v2
                  case s1_u40v2 | s2_u40v2 | s3_u40v2 => kernel_rfl
                  case s4_u40v2 => exact fun _ _ _ h => h
                  case s5_u40v2 => exact Or.inr ⟨rfl, rfl⟩
                  case s6_u40v2 => assumption
                  try simp only [Act.put, List.setIfInBounds_toArray, List.set_cons_zero, List.set_cons_succ]
                  with_reducible refine takeI2 (i := 39) (v := undef) (oi := ?s0_u41v2) (by simp only [List.getElem?_toArray, List.getElem?_cons_succ, List.getElem?_cons_zero]; exact rfl) ?s1_u41v2 ?s2_u41v2 ?s3_u41v2 ?s4_u41v2 ?s5_u41v2 ?s6_u41v2 ?s7_u41v2
                  case s1_u41v2 | s2_u41v2 | s3_u41v2 => kernel_rfl
                  case s4_u41v2 => exact fun _ _ _ h => h
                  case s5_u41v2 => exact Or.inr ⟨rfl, rfl⟩
                  case s6_u41v2 => assumption
                  try simp only [Act.put, List.setIfInBounds_toArray, List.set_cons_zero, List.set_cons_succ]
                  with_reducible refine takeI2 (i := 40) (v := ?sv_u42v2) (oi := ?s0_u42v2) (by simp only [List.getElem?_toArray, List.getElem?_cons_succ, List.getElem?_cons_zero]; exact rfl) ?s1_u42v2 ?s2_u42v2 ?s3_u42v2 ?s4_u42v2 ?s5_u42v2 ?s6_u42v2 ?s7_u42v2
                  case s1_u42v2 | s2_u42v2 | s3_u42v2 => kernel_rfl
                  case s4_u42v2 => exact fun _ _ _ h => h
                  case s5_u42v2 => exact Or.inl ⟨rfl, by intro w hSw; (try dsimp only at hSw); go_simp; try with_reducible rfl⟩
                  case s6_u42v2 => assumption
                  try simp only [Act.put, List.setIfInBounds_toArray, List.set_cons_zero, List.set_cons_succ]
                  with_reducible refine takeI2 (i := 41) (v := ?sv_u43v2) (oi := ?s0_u43v2) (by simp only [List.getElem?_toArray, List.getElem?_cons_succ, List.getElem?_cons_zero]; exact rfl) ?s1_u43v2 ?s2_u43v2 ?s3_u43v2 ?s4_u43v2 ?s5_u43v2 ?s6_u43v2 ?s7_u43v2
                  case s1_u43v2 | s2_u43v2 | s3_u43v2 => kernel_rfl
                  case s4_u43v2 => exact fun _ _ _ h => h
                  case s5_u43v2 => exact Or.inl ⟨rfl, by intro w hSw; (try dsimp only at hSw); go_simp; try with_reducible rfl⟩
                  case s6_u43v2 => assumption
                  try simp only [Act.put, List.setIfInBounds_toArray, List.set_cons_zero, List.set_cons_succ]
                  with_reducible refine wpAnyH_done ?s1_u44v2 ?s2_u44v2 _
                  case s1_u44v2 => kernel_rfl
                  go_wp2_with (fail)
                  exact ⟨⟨j + 1, by omega, by go_num, hD.next _⟩, by simp [intOf]; omega⟩
                · have h1 := he h
                  subst h
                  subst h1
                  clear hm he
                  go_wp2_with (fail)
                  have q0 := cell_on (dr1 wr).below c0
                  have q1 := cell_on (dr1 wr).below c1
                  have q2 := cell_on (dr1 wr).below c2
                  have q3 := cell_on (dr1 wr).below c3
                  clear c0 c1 c2 c3
                  with_reducible refine region_beg (n := 42) (S := (fun w => w.cell? ⟨bH, oH + j, none⟩ = some (.int .i64 x) ∧ w.cell? ⟨bH, oH + k, none⟩ = some (.int .i64 x) ∧ w.cell? ⟨bS, oS + j, none⟩ = some (.int .i64 sx) ∧ w.cell? ⟨bS, oS + k, none⟩ = some (.int .i64 sx))) ?b1_u45v2 ?b2_u45v2 ?b3_u45v2 (fun hHeld => ?b4_u45v2)
                  case b1_u45v2 => kernel_rfl
                  case b2_u45v2 => kernel_rfl
                  case b3_u45v2 => exact ⟨q0, q1, q2, q3⟩
                  with_reducible refine takeI2 (i := 0) (v := ?sv_u46v2) (oi := ?s0_u46v2) (by simp only [List.getElem?_toArray, List.getElem?_cons_succ, List.getElem?_cons_zero]; exact rfl) ?s1_u46v2 ?s2_u46v2 ?s3_u46v2 ?s4_u46v2 ?s5_u46v2 ?s6_u46v2 ?s7_u46v2
                  case s1_u46v2 | s2_u46v2 | s3_u46v2 => kernel_rfl
                  case s4_u46v2 => exact fun _ _ _ h => h
                  case s5_u46v2 => exact Or.inl ⟨rfl, by intro w hSw; (try dsimp only at hSw); go_simp; try with_reducible rfl⟩
                  case s6_u46v2 => assumption
                  try simp only [Act.put, List.setIfInBounds_toArray, List.set_cons_zero, List.set_cons_succ]
                  with_reducible refine takeI2 (i := 1) (v := ?sv_u47v2) (oi := ?s0_u47v2) (by simp only [List.getElem?_toArray, List.getElem?_cons_succ, List.getElem?_cons_zero]; exact rfl) ?s1_u47v2 ?s2_u47v2 ?s3_u47v2 ?s4_u47v2 ?s5_u47v2 ?s6_u47v2 ?s7_u47v2
                  case s1_u47v2 | s2_u47v2 | s3_u47v2 => kernel_rfl
                  case s4_u47v2 => exact fun _ _ _ h => h
                  case s5_u47v2 => exact Or.inl ⟨rfl, by intro w hSw; (try dsimp only at hSw); go_simp; try with_reducible rfl⟩
                  case s6_u47v2 => assumption
                  try simp only [Act.put, List.setIfInBounds_toArray, List.set_cons_zero, List.set_cons_succ]
                  with_reducible refine takeI2 (i := 2) (v := ?sv_u48v2) (oi := ?s0_u48v2) (by simp only [List.getElem?_toArray, List.getElem?_cons_succ, List.getElem?_cons_zero]; exact rfl) ?s1_u48v2 ?s2_u48v2 ?s3_u48v2 ?s4_u48v2 ?s5_u48v2 ?s6_u48v2 ?s7_u48v2
                  case s1_u48v2 | s2_u48v2 | s3_u48v2 => kernel_rfl
                  case s4_u48v2 => exact fun _ _ _ h => h
                  case s5_u48v2 => exact Or.inl ⟨rfl, by intro w hSw; (try dsimp only at hSw); go_simp; try with_reducible rfl⟩
                  case s6_u48v2 => assumption
                  try simp only [Act.put, List.setIfInBounds_toArray, List.set_cons_zero, List.set_cons_succ]
                  with_reducible refine takeI2 (i := 3) (v := ?sv_u49v2) (oi := ?s0_u49v2) (by simp only [List.getElem?_toArray, List.getElem?_cons_succ, List.getElem?_cons_zero]; exact rfl) ?s1_u49v2 ?s2_u49v2 ?s3_u49v2 ?s4_u49v2 ?s5_u49v2 ?s6_u49v2 ?s7_u49v2
                  case s1_u49v2 | s2_u49v2 | s3_u49v2 => kernel_rfl
                  case s4_u49v2 => exact fun _ _ _ h => h
                  case s5_u49v2 => exact Or.inl ⟨rfl, by intro w hSw; (try dsimp only at hSw); go_simp; try with_reducible rfl⟩
                  case s6_u49v2 => assumption
                  try simp only [Act.put, List.setIfInBounds_toArray, List.set_cons_zero, List.set_cons_succ]
                  with_reducible refine takeI2 (i := 4) (v := ?sv_u50v2) (oi := ?s0_u50v2) (by simp only [List.getElem?_toArray, List.getElem?_cons_succ, List.getElem?_cons_zero]; exact rfl) ?s1_u50v2 ?s2_u50v2 ?s3_u50v2 ?s4_u50v2 ?s5_u50v2 ?s6_u50v2 ?s7_u50v2
                  case s1_u50v2 | s2_u50v2 | s3_u50v2 => kernel_rfl
                  case s4_u50v2 => exact fun _ _ _ h => h
                  case s5_u50v2 => exact Or.inl ⟨rfl, by intro w hSw; (try dsimp only at hSw); go_simp; try with_reducible rfl⟩
                  case s6_u50v2 => assumption
                  try simp only [Act.put, List.setIfInBounds_toArray, List.set_cons_zero, List.set_cons_succ]
                  with_reducible refine takeI2 (i := 5) (v := ?sv_u51v2) (oi := ?s0_u51v2) (by simp only [List.getElem?_toArray, List.getElem?_cons_succ, List.getElem?_cons_zero]; exact rfl) ?s1_u51v2 ?s2_u51v2 ?s3_u51v2 ?s4_u51v2 ?s5_u51v2 ?s6_u51v2 ?s7_u51v2
                  case s1_u51v2 | s2_u51v2 | s3_u51v2 => kernel_rfl
                  case s4_u51v2 => exact fun _ _ _ h => h
                  case s5_u51v2 => exact Or.inl ⟨rfl, by intro w hSw; (try dsimp only at hSw); go_simp; try with_reducible rfl⟩
                  case s6_u51v2 => assumption
                  try simp only [Act.put, List.setIfInBounds_toArray, List.set_cons_zero, List.set_cons_succ]
                  with_reducible refine takeI2 (i := 6) (v := ?sv_u52v2) (oi := ?s0_u52v2) (by simp only [List.getElem?_toArray, List.getElem?_cons_succ, List.getElem?_cons_zero]; exact rfl) ?s1_u52v2 ?s2_u52v2 ?s3_u52v2 ?s4_u52v2 ?s5_u52v2 ?s6_u52v2 ?s7_u52v2
                  case s1_u52v2 | s2_u52v2 | s3_u52v2 => kernel_rfl
                  case s4_u52v2 => exact fun _ _ _ h => h
                  case s5_u52v2 => exact Or.inl ⟨rfl, by intro w hSw; (try dsimp only at hSw); go_simp; try with_reducible rfl⟩
                  case s6_u52v2 => assumption
                  try simp only [Act.put, List.setIfInBounds_toArray, List.set_cons_zero, List.set_cons_succ]
                  with_reducible refine takeI2 (i := 7) (v := ?sv_u53v2) (oi := ?s0_u53v2) (by simp only [List.getElem?_toArray, List.getElem?_cons_succ, List.getElem?_cons_zero]; exact rfl) ?s1_u53v2 ?s2_u53v2 ?s3_u53v2 ?s4_u53v2 ?s5_u53v2 ?s6_u53v2 ?s7_u53v2
                  case s1_u53v2 | s2_u53v2 | s3_u53v2 => kernel_rfl
                  case s4_u53v2 => exact fun _ _ _ h => h
                  case s5_u53v2 => exact Or.inl ⟨rfl, by intro w hSw; (try dsimp only at hSw); go_simp; try with_reducible rfl⟩
                  case s6_u53v2 => assumption
                  try simp only [Act.put, List.setIfInBounds_toArray, List.set_cons_zero, List.set_cons_succ]
                  with_reducible refine takeI2 (i := 8) (v := ?sv_u54v2) (oi := ?s0_u54v2) (by simp only [List.getElem?_toArray, List.getElem?_cons_succ, List.getElem?_cons_zero]; exact rfl) ?s1_u54v2 ?s2_u54v2 ?s3_u54v2 ?s4_u54v2 ?s5_u54v2 ?s6_u54v2 ?s7_u54v2
                  case s1_u54v2 | s2_u54v2 | s3_u54v2 => kernel_rfl
                  case s4_u54v2 => exact fun _ _ _ h => h
                  case s5_u54v2 => exact Or.inl ⟨rfl, by intro w hSw; (try dsimp only at hSw); go_simp; try with_reducible rfl⟩
                  case s6_u54v2 => assumption
                  try simp only [Act.put, List.setIfInBounds_toArray, List.set_cons_zero, List.set_cons_succ]
                  with_reducible refine takeI2 (i := 9) (v := ?sv_u55v2) (oi := ?s0_u55v2) (by simp only [List.getElem?_toArray, List.getElem?_cons_succ, List.getElem?_cons_zero]; exact rfl) ?s1_u55v2 ?s2_u55v2 ?s3_u55v2 ?s4_u55v2 ?s5_u55v2 ?s6_u55v2 ?s7_u55v2
                  case s1_u55v2 | s2_u55v2 | s3_u55v2 => kernel_rfl
                  case s4_u55v2 => exact fun _ _ _ h => h
                  case s5_u55v2 => exact Or.inl ⟨rfl, by intro w hSw; (try dsimp only at hSw); go_simp; try with_reducible rfl⟩
                  case s6_u55v2 => assumption
                  try simp only [Act.put, List.setIfInBounds_toArray, List.set_cons_zero, List.set_cons_succ]
                  with_reducible refine takeI2 (i := 10) (v := undef) (oi := ?s0_u56v2) (by simp only [List.getElem?_toArray, List.getElem?_cons_succ, List.getElem?_cons_zero]; exact rfl) ?s1_u56v2 ?s2_u56v2 ?s3_u56v2 ?s4_u56v2 ?s5_u56v2 ?s6_u56v2 ?s7_u56v2
                  case s1_u56v2 | s2_u56v2 | s3_u56v2 => kernel_rfl
                  case s4_u56v2 => exact fun _ _ _ h => h
                  case s5_u56v2 => exact Or.inr ⟨rfl, rfl⟩
                  case s6_u56v2 => assumption
                  try simp only [Act.put, List.setIfInBounds_toArray, List.set_cons_zero, List.set_cons_succ]
                  with_reducible refine takeI2 (i := 11) (v := undef) (oi := ?s0_u57v2) (by simp only [List.getElem?_toArray, List.getElem?_cons_succ, List.getElem?_cons_zero]; exact rfl) ?s1_u57v2 ?s2_u57v2 ?s3_u57v2 ?s4_u57v2 ?s5_u57v2 ?s6_u57v2 ?s7_u57v2
                  case s1_u57v2 | s2_u57v2 | s3_u57v2 => kernel_rfl
                  case s4_u57v2 => exact fun _ _ _ h => h
                  case s5_u57v2 => exact Or.inr ⟨rfl, rfl⟩
                  case s6_u57v2 => assumption
                  try simp only [Act.put, List.setIfInBounds_toArray, List.set_cons_zero, List.set_cons_succ]
                  with_reducible refine takeI2 (i := 12) (v := undef) (oi := ?s0_u58v2) (by simp only [List.getElem?_toArray, List.getElem?_cons_succ, List.getElem?_cons_zero]; exact rfl) ?s1_u58v2 ?s2_u58v2 ?s3_u58v2 ?s4_u58v2 ?s5_u58v2 ?s6_u58v2 ?s7_u58v2
                  case s1_u58v2 | s2_u58v2 | s3_u58v2 => kernel_rfl
                  case s4_u58v2 => exact fun _ _ _ h => h
                  case s5_u58v2 => exact Or.inr ⟨rfl, rfl⟩
                  case s6_u58v2 => assumption
                  try simp only [Act.put, List.setIfInBounds_toArray, List.set_cons_zero, List.set_cons_succ]
                  with_reducible refine takeI2 (i := 13) (v := undef) (oi := ?s0_u59v2) (by simp only [List.getElem?_toArray, List.getElem?_cons_succ, List.getElem?_cons_zero]; exact rfl) ?s1_u59v2 ?s2_u59v2 ?s3_u59v2 ?s4_u59v2 ?s5_u59v2 ?s6_u59v2 ?s7_u59v2
                  case s1_u59v2 | s2_u59v2 | s3_u59v2 => kernel_rfl
                  case s4_u59v2 => exact fun _ _ _ h => h
                  case s5_u59v2 => exact Or.inr ⟨rfl, rfl⟩
                  case s6_u59v2 => assumption
                  try simp only [Act.put, List.setIfInBounds_toArray, List.set_cons_zero, List.set_cons_succ]
                  with_reducible refine takeI2 (i := 14) (v := undef) (oi := ?s0_u60v2) (by simp only [List.getElem?_toArray, List.getElem?_cons_succ, List.getElem?_cons_zero]; exact rfl) ?s1_u60v2 ?s2_u60v2 ?s3_u60v2 ?s4_u60v2 ?s5_u60v2 ?s6_u60v2 ?s7_u60v2
                  case s1_u60v2 | s2_u60v2 | s3_u60v2 => kernel_rfl
                  case s4_u60v2 => exact fun _ _ _ h => h
                  case s5_u60v2 => exact Or.inr ⟨rfl, rfl⟩
                  case s6_u60v2 => assumption
                  try simp only [Act.put, List.setIfInBounds_toArray, List.set_cons_zero, List.set_cons_succ]
                  with_reducible refine takeI2 (i := 15) (v := undef) (oi := ?s0_u61v2) (by simp only [List.getElem?_toArray, List.getElem?_cons_succ, List.getElem?_cons_zero]; exact rfl) ?s1_u61v2 ?s2_u61v2 ?s3_u61v2 ?s4_u61v2 ?s5_u61v2 ?s6_u61v2 ?s7_u61v2
                  case s1_u61v2 | s2_u61v2 | s3_u61v2 => kernel_rfl
                  case s4_u61v2 => exact fun _ _ _ h => h
                  case s5_u61v2 => exact Or.inr ⟨rfl, rfl⟩
                  case s6_u61v2 => assumption
                  try simp only [Act.put, List.setIfInBounds_toArray, List.set_cons_zero, List.set_cons_succ]
                  with_reducible refine takeI2 (i := 16) (v := undef) (oi := ?s0_u62v2) (by simp only [List.getElem?_toArray, List.getElem?_cons_succ, List.getElem?_cons_zero]; exact rfl) ?s1_u62v2 ?s2_u62v2 ?s3_u62v2 ?s4_u62v2 ?s5_u62v2 ?s6_u62v2 ?s7_u62v2
                  case s1_u62v2 | s2_u62v2 | s3_u62v2 => kernel_rfl
                  case s4_u62v2 => exact fun _ _ _ h => h
                  case s5_u62v2 => exact Or.inr ⟨rfl, rfl⟩
                  case s6_u62v2 => assumption
                  try simp only [Act.put, List.setIfInBounds_toArray, List.set_cons_zero, List.set_cons_succ]
                  with_reducible refine takeI2 (i := 17) (v := undef) (oi := ?s0_u63v2) (by simp only [List.getElem?_toArray, List.getElem?_cons_succ, List.getElem?_cons_zero]; exact rfl) ?s1_u63v2 ?s2_u63v2 ?s3_u63v2 ?s4_u63v2 ?s5_u63v2 ?s6_u63v2 ?s7_u63v2
                  case s1_u63v2 | s2_u63v2 | s3_u63v2 => kernel_rfl
                  case s4_u63v2 => exact fun _ _ _ h => h
                  case s5_u63v2 => exact Or.inr ⟨rfl, rfl⟩
                  case s6_u63v2 => assumption
                  try simp only [Act.put, List.setIfInBounds_toArray, List.set_cons_zero, List.set_cons_succ]
                  with_reducible refine takeI2 (i := 18) (v := undef) (oi := ?s0_u64v2) (by simp only [List.getElem?_toArray, List.getElem?_cons_succ, List.getElem?_cons_zero]; exact rfl) ?s1_u64v2 ?s2_u64v2 ?s3_u64v2 ?s4_u64v2 ?s5_u64v2 ?s6_u64v2 ?s7_u64v2
                  case s1_u64v2 | s2_u64v2 | s3_u64v2 => kernel_rfl
                  case s4_u64v2 => exact fun _ _ _ h => h
                  case s5_u64v2 => exact Or.inr ⟨rfl, rfl⟩
                  case s6_u64v2 => assumption
                  try simp only [Act.put, List.setIfInBounds_toArray, List.set_cons_zero, List.set_cons_succ]
                  with_reducible refine takeI2 (i := 19) (v := ?sv_u65v2) (oi := ?s0_u65v2) (by simp only [List.getElem?_toArray, List.getElem?_cons_succ, List.getElem?_cons_zero]; exact rfl) ?s1_u65v2 ?s2_u65v2 ?s3_u65v2 ?s4_u65v2 ?s5_u65v2 ?s6_u65v2 ?s7_u65v2
                  case s1_u65v2 | s2_u65v2 | s3_u65v2 => kernel_rfl
                  case s4_u65v2 => exact fun _ _ _ h => h
                  case s5_u65v2 => exact Or.inl ⟨rfl, by intro w hSw; (try dsimp only at hSw); go_simp; try with_reducible rfl⟩
                  case s6_u65v2 => assumption
                  try simp only [Act.put, List.setIfInBounds_toArray, List.set_cons_zero, List.set_cons_succ]
                  with_reducible refine takeI2 (i := 20) (v := ?sv_u66v2) (oi := ?s0_u66v2) (by simp only [List.getElem?_toArray, List.getElem?_cons_succ, List.getElem?_cons_zero]; exact rfl) ?s1_u66v2 ?s2_u66v2 ?s3_u66v2 ?s4_u66v2 ?s5_u66v2 ?s6_u66v2 ?s7_u66v2
                  case s1_u66v2 | s2_u66v2 | s3_u66v2 => kernel_rfl
                  case s4_u66v2 => exact fun _ _ _ h => h
                  case s5_u66v2 => exact Or.inl ⟨rfl, by intro w hSw; (try dsimp only at hSw); go_simp; try with_reducible rfl⟩
                  case s6_u66v2 => assumption
                  try simp only [Act.put, List.setIfInBounds_toArray, List.set_cons_zero, List.set_cons_succ]
                  with_reducible refine takeI2 (i := 21) (v := ?sv_u67v2) (oi := ?s0_u67v2) (by simp only [List.getElem?_toArray, List.getElem?_cons_succ, List.getElem?_cons_zero]; exact rfl) ?s1_u67v2 ?s2_u67v2 ?s3_u67v2 ?s4_u67v2 ?s5_u67v2 ?s6_u67v2 ?s7_u67v2
                  case s1_u67v2 | s2_u67v2 | s3_u67v2 => kernel_rfl
                  case s4_u67v2 => exact fun _ _ _ h => h
                  case s5_u67v2 => exact Or.inl ⟨rfl, by intro w hSw; (try dsimp only at hSw); go_simp; try with_reducible rfl⟩
                  case s6_u67v2 => assumption
                  try simp only [Act.put, List.setIfInBounds_toArray, List.set_cons_zero, List.set_cons_succ]
                  with_reducible refine takeI2 (i := 22) (v := ?sv_u68v2) (oi := ?s0_u68v2) (by simp only [List.getElem?_toArray, List.getElem?_cons_succ, List.getElem?_cons_zero]; exact rfl) ?s1_u68v2 ?s2_u68v2 ?s3_u68v2 ?s4_u68v2 ?s5_u68v2 ?s6_u68v2 ?s7_u68v2
                  case s1_u68v2 | s2_u68v2 | s3_u68v2 => kernel_rfl
                  case s4_u68v2 => exact fun _ _ _ h => h
                  case s5_u68v2 => exact Or.inl ⟨rfl, by intro w hSw; (try dsimp only at hSw); go_simp; try with_reducible rfl⟩
                  case s6_u68v2 => assumption
                  try simp only [Act.put, List.setIfInBounds_toArray, List.set_cons_zero, List.set_cons_succ]
                  with_reducible refine takeI2 (i := 23) (v := ?sv_u69v2) (oi := ?s0_u69v2) (by simp only [List.getElem?_toArray, List.getElem?_cons_succ, List.getElem?_cons_zero]; exact rfl) ?s1_u69v2 ?s2_u69v2 ?s3_u69v2 ?s4_u69v2 ?s5_u69v2 ?s6_u69v2 ?s7_u69v2
                  case s1_u69v2 | s2_u69v2 | s3_u69v2 => kernel_rfl
                  case s4_u69v2 => exact fun _ _ _ h => h
                  case s5_u69v2 => exact Or.inl ⟨rfl, by intro w hSw; (try dsimp only at hSw); go_simp; try with_reducible rfl⟩
                  case s6_u69v2 => assumption
                  try simp only [Act.put, List.setIfInBounds_toArray, List.set_cons_zero, List.set_cons_succ]
                  with_reducible refine takeI2 (i := 24) (v := ?sv_u70v2) (oi := ?s0_u70v2) (by simp only [List.getElem?_toArray, List.getElem?_cons_succ, List.getElem?_cons_zero]; exact rfl) ?s1_u70v2 ?s2_u70v2 ?s3_u70v2 ?s4_u70v2 ?s5_u70v2 ?s6_u70v2 ?s7_u70v2
                  case s1_u70v2 | s2_u70v2 | s3_u70v2 => kernel_rfl
                  case s4_u70v2 => exact fun _ _ _ h => h
                  case s5_u70v2 => exact Or.inl ⟨rfl, by intro w hSw; (try dsimp only at hSw); go_simp; try with_reducible rfl⟩
                  case s6_u70v2 => assumption
                  try simp only [Act.put, List.setIfInBounds_toArray, List.set_cons_zero, List.set_cons_succ]
                  with_reducible refine takeI2 (i := 25) (v := ?sv_u71v2) (oi := ?s0_u71v2) (by simp only [List.getElem?_toArray, List.getElem?_cons_succ, List.getElem?_cons_zero]; exact rfl) ?s1_u71v2 ?s2_u71v2 ?s3_u71v2 ?s4_u71v2 ?s5_u71v2 ?s6_u71v2 ?s7_u71v2
                  case s1_u71v2 | s2_u71v2 | s3_u71v2 => kernel_rfl
                  case s4_u71v2 => exact fun _ _ _ h => h
                  case s5_u71v2 => exact Or.inl ⟨rfl, by intro w hSw; (try dsimp only at hSw); go_simp; try with_reducible rfl⟩
                  case s6_u71v2 => assumption
                  try simp only [Act.put, List.setIfInBounds_toArray, List.set_cons_zero, List.set_cons_succ]
                  with_reducible refine takeI2 (i := 26) (v := ?sv_u72v2) (oi := ?s0_u72v2) (by simp only [List.getElem?_toArray, List.getElem?_cons_succ, List.getElem?_cons_zero]; exact rfl) ?s1_u72v2 ?s2_u72v2 ?s3_u72v2 ?s4_u72v2 ?s5_u72v2 ?s6_u72v2 ?s7_u72v2
                  case s1_u72v2 | s2_u72v2 | s3_u72v2 => kernel_rfl
                  case s4_u72v2 => exact fun _ _ _ h => h
                  case s5_u72v2 => exact Or.inl ⟨rfl, by intro w hSw; (try dsimp only at hSw); go_simp; try with_reducible rfl⟩
                  case s6_u72v2 => assumption
                  try simp only [Act.put, List.setIfInBounds_toArray, List.set_cons_zero, List.set_cons_succ]
                  with_reducible refine takeI2 (i := 27) (v := ?sv_u73v2) (oi := ?s0_u73v2) (by simp only [List.getElem?_toArray, List.getElem?_cons_succ, List.getElem?_cons_zero]; exact rfl) ?s1_u73v2 ?s2_u73v2 ?s3_u73v2 ?s4_u73v2 ?s5_u73v2 ?s6_u73v2 ?s7_u73v2
                  case s1_u73v2 | s2_u73v2 | s3_u73v2 => kernel_rfl
                  case s4_u73v2 => exact fun _ _ _ h => h
                  case s5_u73v2 => exact Or.inl ⟨rfl, by intro w hSw; (try dsimp only at hSw); go_simp; try with_reducible rfl⟩
                  case s6_u73v2 => assumption
                  try simp only [Act.put, List.setIfInBounds_toArray, List.set_cons_zero, List.set_cons_succ]
                  with_reducible refine takeI2 (i := 28) (v := ?sv_u74v2) (oi := ?s0_u74v2) (by simp only [List.getElem?_toArray, List.getElem?_cons_succ, List.getElem?_cons_zero]; exact rfl) ?s1_u74v2 ?s2_u74v2 ?s3_u74v2 ?s4_u74v2 ?s5_u74v2 ?s6_u74v2 ?s7_u74v2
                  case s1_u74v2 | s2_u74v2 | s3_u74v2 => kernel_rfl
                  case s4_u74v2 => exact fun _ _ _ h => h
                  case s5_u74v2 => exact Or.inl ⟨rfl, by intro w hSw; (try dsimp only at hSw); go_simp; try with_reducible rfl⟩
                  case s6_u74v2 => assumption
                  try simp only [Act.put, List.setIfInBounds_toArray, List.set_cons_zero, List.set_cons_succ]
                  with_reducible refine takeI2 (i := 29) (v := ?sv_u75v2) (oi := ?s0_u75v2) (by simp only [List.getElem?_toArray, List.getElem?_cons_succ, List.getElem?_cons_zero]; exact rfl) ?s1_u75v2 ?s2_u75v2 ?s3_u75v2 ?s4_u75v2 ?s5_u75v2 ?s6_u75v2 ?s7_u75v2
                  case s1_u75v2 | s2_u75v2 | s3_u75v2 => kernel_rfl
                  case s4_u75v2 => exact fun _ _ _ h => h
                  case s5_u75v2 => exact Or.inl ⟨rfl, by intro w hSw; (try dsimp only at hSw); go_simp; try with_reducible rfl⟩
                  case s6_u75v2 => assumption
                  try simp only [Act.put, List.setIfInBounds_toArray, List.set_cons_zero, List.set_cons_succ]
                  with_reducible refine takeI2 (i := 30) (v := ?sv_u76v2) (oi := ?s0_u76v2) (by simp only [List.getElem?_toArray, List.getElem?_cons_succ, List.getElem?_cons_zero]; exact rfl) ?s1_u76v2 ?s2_u76v2 ?s3_u76v2 ?s4_u76v2 ?s5_u76v2 ?s6_u76v2 ?s7_u76v2
                  case s1_u76v2 | s2_u76v2 | s3_u76v2 => kernel_rfl
                  case s4_u76v2 => exact fun _ _ _ h => h
                  case s5_u76v2 => exact Or.inl ⟨rfl, by intro w hSw; (try dsimp only at hSw); go_simp; try with_reducible rfl⟩
                  case s6_u76v2 => assumption
                  try simp only [Act.put, List.setIfInBounds_toArray, List.set_cons_zero, List.set_cons_succ]
                  with_reducible refine takeI2 (i := 31) (v := ?sv_u77v2) (oi := ?s0_u77v2) (by simp only [List.getElem?_toArray, List.getElem?_cons_succ, List.getElem?_cons_zero]; exact rfl) ?s1_u77v2 ?s2_u77v2 ?s3_u77v2 ?s4_u77v2 ?s5_u77v2 ?s6_u77v2 ?s7_u77v2
                  case s1_u77v2 | s2_u77v2 | s3_u77v2 => kernel_rfl
                  case s4_u77v2 => exact fun _ _ _ h => h
                  case s5_u77v2 => exact Or.inl ⟨rfl, by intro w hSw; (try dsimp only at hSw); go_simp; try with_reducible rfl⟩
                  case s6_u77v2 => assumption
                  try simp only [Act.put, List.setIfInBounds_toArray, List.set_cons_zero, List.set_cons_succ]
                  with_reducible refine takeI2 (i := 32) (v := ?sv_u78v2) (oi := ?s0_u78v2) (by simp only [List.getElem?_toArray, List.getElem?_cons_succ, List.getElem?_cons_zero]; exact rfl) ?s1_u78v2 ?s2_u78v2 ?s3_u78v2 ?s4_u78v2 ?s5_u78v2 ?s6_u78v2 ?s7_u78v2
                  case s1_u78v2 | s2_u78v2 | s3_u78v2 => kernel_rfl
                  case s4_u78v2 => exact fun _ _ _ h => h
                  case s5_u78v2 => exact Or.inl ⟨rfl, by intro w hSw; (try dsimp only at hSw); go_simp; try with_reducible rfl⟩
                  case s6_u78v2 => assumption
                  try simp only [Act.put, List.setIfInBounds_toArray, List.set_cons_zero, List.set_cons_succ]
                  with_reducible refine takeI2 (i := 33) (v := ?sv_u79v2) (oi := ?s0_u79v2) (by simp only [List.getElem?_toArray, List.getElem?_cons_succ, List.getElem?_cons_zero]; exact rfl) ?s1_u79v2 ?s2_u79v2 ?s3_u79v2 ?s4_u79v2 ?s5_u79v2 ?s6_u79v2 ?s7_u79v2
                  case s1_u79v2 | s2_u79v2 | s3_u79v2 => kernel_rfl
                  case s4_u79v2 => exact fun _ _ _ h => h
                  case s5_u79v2 => exact Or.inl ⟨rfl, by intro w hSw; (try dsimp only at hSw); go_simp; try with_reducible rfl⟩
                  case s6_u79v2 => assumption
                  try simp only [Act.put, List.setIfInBounds_toArray, List.set_cons_zero, List.set_cons_succ]
                  with_reducible refine takeI2 (i := 34) (v := ?sv_u80v2) (oi := ?s0_u80v2) (by simp only [List.getElem?_toArray, List.getElem?_cons_succ, List.getElem?_cons_zero]; exact rfl) ?s1_u80v2 ?s2_u80v2 ?s3_u80v2 ?s4_u80v2 ?s5_u80v2 ?s6_u80v2 ?s7_u80v2
                  case s1_u80v2 | s2_u80v2 | s3_u80v2 => kernel_rfl
                  case s4_u80v2 => exact fun _ _ _ h => h
                  case s5_u80v2 => exact Or.inl ⟨rfl, by intro w hSw; (try dsimp only at hSw); go_simp; try with_reducible rfl⟩
                  case s6_u80v2 => assumption
                  try simp only [Act.put, List.setIfInBounds_toArray, List.set_cons_zero, List.set_cons_succ]
                  with_reducible refine takeI2 (i := 35) (v := ?sv_u81v2) (oi := ?s0_u81v2) (by simp only [List.getElem?_toArray, List.getElem?_cons_succ, List.getElem?_cons_zero]; exact rfl) ?s1_u81v2 ?s2_u81v2 ?s3_u81v2 ?s4_u81v2 ?s5_u81v2 ?s6_u81v2 ?s7_u81v2
                  case s1_u81v2 | s2_u81v2 | s3_u81v2 => kernel_rfl
                  case s4_u81v2 => exact fun _ _ _ h => h
                  case s5_u81v2 => exact Or.inl ⟨rfl, by intro w hSw; (try dsimp only at hSw); go_simp; try with_reducible rfl⟩
                  case s6_u81v2 => assumption
                  try simp only [Act.put, List.setIfInBounds_toArray, List.set_cons_zero, List.set_cons_succ]
                  with_reducible refine takeI2 (i := 36) (v := ?sv_u82v2) (oi := ?s0_u82v2) (by simp only [List.getElem?_toArray, List.getElem?_cons_succ, List.getElem?_cons_zero]; exact rfl) ?s1_u82v2 ?s2_u82v2 ?s3_u82v2 ?s4_u82v2 ?s5_u82v2 ?s6_u82v2 ?s7_u82v2
                  case s1_u82v2 | s2_u82v2 | s3_u82v2 => kernel_rfl
                  case s4_u82v2 => exact fun _ _ _ h => h
                  case s5_u82v2 => exact Or.inl ⟨rfl, by intro w hSw; (try dsimp only at hSw); go_simp; try with_reducible rfl⟩
                  case s6_u82v2 => assumption
                  try simp only [Act.put, List.setIfInBounds_toArray, List.set_cons_zero, List.set_cons_succ]
                  with_reducible refine takeI2 (i := 37) (v := ?sv_u83v2) (oi := ?s0_u83v2) (by simp only [List.getElem?_toArray, List.getElem?_cons_succ, List.getElem?_cons_zero]; exact rfl) ?s1_u83v2 ?s2_u83v2 ?s3_u83v2 ?s4_u83v2 ?s5_u83v2 ?s6_u83v2 ?s7_u83v2
                  case s1_u83v2 | s2_u83v2 | s3_u83v2 => kernel_rfl
                  case s4_u83v2 => exact fun _ _ _ h => h
                  case s5_u83v2 => exact Or.inl ⟨rfl, by intro w hSw; (try dsimp only at hSw); go_simp; try with_reducible rfl⟩
                  case s6_u83v2 => assumption
                  try simp only [Act.put, List.setIfInBounds_toArray, List.set_cons_zero, List.set_cons_succ]
                  with_reducible refine takeI2 (i := 38) (v := ?sv_u84v2) (oi := ?s0_u84v2) (by simp only [List.getElem?_toArray, List.getElem?_cons_succ, List.getElem?_cons_zero]; exact rfl) ?s1_u84v2 ?s2_u84v2 ?s3_u84v2 ?s4_u84v2 ?s5_u84v2 ?s6_u84v2 ?s7_u84v2
                  case s1_u84v2 | s2_u84v2 | s3_u84v2 => kernel_rfl
                  case s4_u84v2 => exact fun _ _ _ h => h
                  case s5_u84v2 => exact Or.inl ⟨rfl, by intro w hSw; (try dsimp only at hSw); go_simp; try with_reducible rfl⟩
                  case s6_u84v2 => assumption
                  try simp only [Act.put, List.setIfInBounds_toArray, List.set_cons_zero, List.set_cons_succ]
                  with_reducible refine takeI2 (i := 39) (v := ?sv_u85v2) (oi := ?s0_u85v2) (by simp only [List.getElem?_toArray, List.getElem?_cons_succ, List.getElem?_cons_zero]; exact rfl) ?s1_u85v2 ?s2_u85v2 ?s3_u85v2 ?s4_u85v2 ?s5_u85v2 ?s6_u85v2 ?s7_u85v2
                  case s1_u85v2 | s2_u85v2 | s3_u85v2 => kernel_rfl
                  case s4_u85v2 => exact fun _ _ _ h => h
                  case s5_u85v2 => exact Or.inl ⟨rfl, by intro w hSw; (try dsimp only at hSw); go_simp; try with_reducible rfl⟩
                  case s6_u85v2 => assumption
                  try simp only [Act.put, List.setIfInBounds_toArray, List.set_cons_zero, List.set_cons_succ]
                  with_reducible refine takeI2 (i := 40) (v := ?sv_u86v2) (oi := ?s0_u86v2) (by simp only [List.getElem?_toArray, List.getElem?_cons_succ, List.getElem?_cons_zero]; exact rfl) ?s1_u86v2 ?s2_u86v2 ?s3_u86v2 ?s4_u86v2 ?s5_u86v2 ?s6_u86v2 ?s7_u86v2
                  case s1_u86v2 | s2_u86v2 | s3_u86v2 => kernel_rfl
                  case s4_u86v2 => exact fun _ _ _ h => h
                  case s5_u86v2 => exact Or.inl ⟨rfl, by intro w hSw; (try dsimp only at hSw); go_simp; try with_reducible rfl⟩
                  case s6_u86v2 => assumption
                  try simp only [Act.put, List.setIfInBounds_toArray, List.set_cons_zero, List.set_cons_succ]
                  with_reducible refine takeI2 (i := 41) (v := ?sv_u87v2) (oi := ?s0_u87v2) (by simp only [List.getElem?_toArray, List.getElem?_cons_succ, List.getElem?_cons_zero]; exact rfl) ?s1_u87v2 ?s2_u87v2 ?s3_u87v2 ?s4_u87v2 ?s5_u87v2 ?s6_u87v2 ?s7_u87v2
                  case s1_u87v2 | s2_u87v2 | s3_u87v2 => kernel_rfl
                  case s4_u87v2 => exact fun _ _ _ h => h
                  case s5_u87v2 => exact Or.inl ⟨rfl, by intro w hSw; (try dsimp only at hSw); go_simp; try with_reducible rfl⟩
                  case s6_u87v2 => assumption
                  try simp only [Act.put, List.setIfInBounds_toArray, List.set_cons_zero, List.set_cons_succ]
                  with_reducible refine wpAnyH_done ?s1_u88v2 ?s2_u88v2 _
                  case s1_u88v2 => kernel_rfl
                  go_wp2_with (fail)
                  exact ⟨⟨j + 1, by omega, by go_num, hD.next _⟩, by simp [intOf]; omega⟩
                · have h1 : decide (x < y) = false := decide_eq_false (by omega)
                  have h2 : (x == y) = false := beq_eq_false_iff_ne.2 (by omega)
                  have h3 : ¬ x = y := by omega
                  clear hm he
                  go_wp2_with (fail)
                  have q0 := cell_on (dr1 wr).below c0
                  have q1 := cell_on (dr1 wr).below c1
                  have q2 := cell_on (dr1 wr).below c2
                  have q3 := cell_on (dr1 wr).below c3
                  clear c0 c1 c2 c3
                  with_reducible refine region_beg (n := 42) (S := (fun w => w.cell? ⟨bH, oH + j, none⟩ = some (.int .i64 x) ∧ w.cell? ⟨bH, oH + k, none⟩ = some (.int .i64 y) ∧ w.cell? ⟨bS, oS + j, none⟩ = some (.int .i64 sx) ∧ w.cell? ⟨bS, oS + k, none⟩ = some (.int .i64 sy))) ?b1_u89v2 ?b2_u89v2 ?b3_u89v2 (fun hHeld => ?b4_u89v2)
                  case b1_u89v2 => kernel_rfl
                  case b2_u89v2 => kernel_rfl
                  case b3_u89v2 => exact ⟨q0, q1, q2, q3⟩
                  with_reducible refine takeI2 (i := 0) (v := ?sv_u90v2) (oi := ?s0_u90v2) (by simp only [List.getElem?_toArray, List.getElem?_cons_succ, List.getElem?_cons_zero]; exact rfl) ?s1_u90v2 ?s2_u90v2 ?s3_u90v2 ?s4_u90v2 ?s5_u90v2 ?s6_u90v2 ?s7_u90v2
                  case s1_u90v2 | s2_u90v2 | s3_u90v2 => kernel_rfl
                  case s4_u90v2 => exact fun _ _ _ h => h
                  case s5_u90v2 => exact Or.inl ⟨rfl, by intro w hSw; (try dsimp only at hSw); go_simp; try with_reducible rfl⟩
                  case s6_u90v2 => assumption
                  try simp only [Act.put, List.setIfInBounds_toArray, List.set_cons_zero, List.set_cons_succ]
                  with_reducible refine takeI2 (i := 1) (v := ?sv_u91v2) (oi := ?s0_u91v2) (by simp only [List.getElem?_toArray, List.getElem?_cons_succ, List.getElem?_cons_zero]; exact rfl) ?s1_u91v2 ?s2_u91v2 ?s3_u91v2 ?s4_u91v2 ?s5_u91v2 ?s6_u91v2 ?s7_u91v2
                  case s1_u91v2 | s2_u91v2 | s3_u91v2 => kernel_rfl
                  case s4_u91v2 => exact fun _ _ _ h => h
                  case s5_u91v2 => exact Or.inl ⟨rfl, by intro w hSw; (try dsimp only at hSw); go_simp; try with_reducible rfl⟩
                  case s6_u91v2 => assumption
                  try simp only [Act.put, List.setIfInBounds_toArray, List.set_cons_zero, List.set_cons_succ]
                  with_reducible refine takeI2 (i := 2) (v := ?sv_u92v2) (oi := ?s0_u92v2) (by simp only [List.getElem?_toArray, List.getElem?_cons_succ, List.getElem?_cons_zero]; exact rfl) ?s1_u92v2 ?s2_u92v2 ?s3_u92v2 ?s4_u92v2 ?s5_u92v2 ?s6_u92v2 ?s7_u92v2
                  case s1_u92v2 | s2_u92v2 | s3_u92v2 => kernel_rfl
                  case s4_u92v2 => exact fun _ _ _ h => h
                  case s5_u92v2 => exact Or.inl ⟨rfl, by intro w hSw; (try dsimp only at hSw); go_simp; try with_reducible rfl⟩
                  case s6_u92v2 => assumption
                  try simp only [Act.put, List.setIfInBounds_toArray, List.set_cons_zero, List.set_cons_succ]
                  with_reducible refine takeI2 (i := 3) (v := ?sv_u93v2) (oi := ?s0_u93v2) (by simp only [List.getElem?_toArray, List.getElem?_cons_succ, List.getElem?_cons_zero]; exact rfl) ?s1_u93v2 ?s2_u93v2 ?s3_u93v2 ?s4_u93v2 ?s5_u93v2 ?s6_u93v2 ?s7_u93v2
                  case s1_u93v2 | s2_u93v2 | s3_u93v2 => kernel_rfl
                  case s4_u93v2 => exact fun _ _ _ h => h
                  case s5_u93v2 => exact Or.inl ⟨rfl, by intro w hSw; (try dsimp only at hSw); go_simp; try with_reducible rfl⟩
                  case s6_u93v2 => assumption
                  try simp only [Act.put, List.setIfInBounds_toArray, List.set_cons_zero, List.set_cons_succ]
                  with_reducible refine takeI2 (i := 4) (v := ?sv_u94v2) (oi := ?s0_u94v2) (by simp only [List.getElem?_toArray, List.getElem?_cons_succ, List.getElem?_cons_zero]; exact rfl) ?s1_u94v2 ?s2_u94v2 ?s3_u94v2 ?s4_u94v2 ?s5_u94v2 ?s6_u94v2 ?s7_u94v2
                  case s1_u94v2 | s2_u94v2 | s3_u94v2 => kernel_rfl
                  case s4_u94v2 => exact fun _ _ _ h => h
                  case s5_u94v2 => exact Or.inl ⟨rfl, by intro w hSw; (try dsimp only at hSw); go_simp; try with_reducible rfl⟩
                  case s6_u94v2 => assumption
                  try simp only [Act.put, List.setIfInBounds_toArray, List.set_cons_zero, List.set_cons_succ]
                  with_reducible refine takeI2 (i := 5) (v := ?sv_u95v2) (oi := ?s0_u95v2) (by simp only [List.getElem?_toArray, List.getElem?_cons_succ, List.getElem?_cons_zero]; exact rfl) ?s1_u95v2 ?s2_u95v2 ?s3_u95v2 ?s4_u95v2 ?s5_u95v2 ?s6_u95v2 ?s7_u95v2
                  case s1_u95v2 | s2_u95v2 | s3_u95v2 => kernel_rfl
                  case s4_u95v2 => exact fun _ _ _ h => h
                  case s5_u95v2 => exact Or.inl ⟨rfl, by intro w hSw; (try dsimp only at hSw); go_simp; try with_reducible rfl⟩
                  case s6_u95v2 => assumption
                  try simp only [Act.put, List.setIfInBounds_toArray, List.set_cons_zero, List.set_cons_succ]
                  with_reducible refine takeI2 (i := 6) (v := ?sv_u96v2) (oi := ?s0_u96v2) (by simp only [List.getElem?_toArray, List.getElem?_cons_succ, List.getElem?_cons_zero]; exact rfl) ?s1_u96v2 ?s2_u96v2 ?s3_u96v2 ?s4_u96v2 ?s5_u96v2 ?s6_u96v2 ?s7_u96v2
                  case s1_u96v2 | s2_u96v2 | s3_u96v2 => kernel_rfl
                  case s4_u96v2 => exact fun _ _ _ h => h
                  case s5_u96v2 => exact Or.inl ⟨rfl, by intro w hSw; (try dsimp only at hSw); go_simp; try with_reducible rfl⟩
                  case s6_u96v2 => assumption
                  try simp only [Act.put, List.setIfInBounds_toArray, List.set_cons_zero, List.set_cons_succ]
                  with_reducible refine takeI2 (i := 7) (v := ?sv_u97v2) (oi := ?s0_u97v2) (by simp only [List.getElem?_toArray, List.getElem?_cons_succ, List.getElem?_cons_zero]; exact rfl) ?s1_u97v2 ?s2_u97v2 ?s3_u97v2 ?s4_u97v2 ?s5_u97v2 ?s6_u97v2 ?s7_u97v2
                  case s1_u97v2 | s2_u97v2 | s3_u97v2 => kernel_rfl
                  case s4_u97v2 => exact fun _ _ _ h => h
                  case s5_u97v2 => exact Or.inl ⟨rfl, by intro w hSw; (try dsimp only at hSw); go_simp; try with_reducible rfl⟩
                  case s6_u97v2 => assumption
                  try simp only [Act.put, List.setIfInBounds_toArray, List.set_cons_zero, List.set_cons_succ]
                  with_reducible refine takeI2 (i := 8) (v := ?sv_u98v2) (oi := ?s0_u98v2) (by simp only [List.getElem?_toArray, List.getElem?_cons_succ, List.getElem?_cons_zero]; exact rfl) ?s1_u98v2 ?s2_u98v2 ?s3_u98v2 ?s4_u98v2 ?s5_u98v2 ?s6_u98v2 ?s7_u98v2
                  case s1_u98v2 | s2_u98v2 | s3_u98v2 => kernel_rfl
                  case s4_u98v2 => exact fun _ _ _ h => h
                  case s5_u98v2 => exact Or.inl ⟨rfl, by intro w hSw; (try dsimp only at hSw); go_simp; try with_reducible rfl⟩
                  case s6_u98v2 => assumption
                  try simp only [Act.put, List.setIfInBounds_toArray, List.set_cons_zero, List.set_cons_succ]
                  with_reducible refine takeI2 (i := 9) (v := ?sv_u99v2) (oi := ?s0_u99v2) (by simp only [List.getElem?_toArray, List.getElem?_cons_succ, List.getElem?_cons_zero]; exact rfl) ?s1_u99v2 ?s2_u99v2 ?s3_u99v2 ?s4_u99v2 ?s5_u99v2 ?s6_u99v2 ?s7_u99v2
                  case s1_u99v2 | s2_u99v2 | s3_u99v2 => kernel_rfl
                  case s4_u99v2 => exact fun _ _ _ h => h
                  case s5_u99v2 => exact Or.inl ⟨rfl, by intro w hSw; (try dsimp only at hSw); go_simp; try with_reducible rfl⟩
                  case s6_u99v2 => assumption
                  try simp only [Act.put, List.setIfInBounds_toArray, List.set_cons_zero, List.set_cons_succ]
                  with_reducible refine takeI2 (i := 10) (v := undef) (oi := ?s0_u100v2) (by simp only [List.getElem?_toArray, List.getElem?_cons_succ, List.getElem?_cons_zero]; exact rfl) ?s1_u100v2 ?s2_u100v2 ?s3_u100v2 ?s4_u100v2 ?s5_u100v2 ?s6_u100v2 ?s7_u100v2
                  case s1_u100v2 | s2_u100v2 | s3_u100v2 => kernel_rfl
                  case s4_u100v2 => exact fun _ _ _ h => h
                  case s5_u100v2 => exact Or.inr ⟨rfl, rfl⟩
                  case s6_u100v2 => assumption
                  try simp only [Act.put, List.setIfInBounds_toArray, List.set_cons_zero, List.set_cons_succ]
                  with_reducible refine takeI2 (i := 11) (v := undef) (oi := ?s0_u101v2) (by simp only [List.getElem?_toArray, List.getElem?_cons_succ, List.getElem?_cons_zero]; exact rfl) ?s1_u101v2 ?s2_u101v2 ?s3_u101v2 ?s4_u101v2 ?s5_u101v2 ?s6_u101v2 ?s7_u101v2
                  case s1_u101v2 | s2_u101v2 | s3_u101v2 => kernel_rfl
                  case s4_u101v2 => exact fun _ _ _ h => h
                  case s5_u101v2 => exact Or.inr ⟨rfl, rfl⟩
                  case s6_u101v2 => assumption
                  try simp only [Act.put, List.setIfInBounds_toArray, List.set_cons_zero, List.set_cons_succ]
                  with_reducible refine takeI2 (i := 12) (v := undef) (oi := ?s0_u102v2) (by simp only [List.getElem?_toArray, List.getElem?_cons_succ, List.getElem?_cons_zero]; exact rfl) ?s1_u102v2 ?s2_u102v2 ?s3_u102v2 ?s4_u102v2 ?s5_u102v2 ?s6_u102v2 ?s7_u102v2
                  case s1_u102v2 | s2_u102v2 | s3_u102v2 => kernel_rfl
                  case s4_u102v2 => exact fun _ _ _ h => h
                  case s5_u102v2 => exact Or.inr ⟨rfl, rfl⟩
                  case s6_u102v2 => assumption
                  try simp only [Act.put, List.setIfInBounds_toArray, List.set_cons_zero, List.set_cons_succ]
                  with_reducible refine takeI2 (i := 13) (v := undef) (oi := ?s0_u103v2) (by simp only [List.getElem?_toArray, List.getElem?_cons_succ, List.getElem?_cons_zero]; exact rfl) ?s1_u103v2 ?s2_u103v2 ?s3_u103v2 ?s4_u103v2 ?s5_u103v2 ?s6_u103v2 ?s7_u103v2
                  case s1_u103v2 | s2_u103v2 | s3_u103v2 => kernel_rfl
                  case s4_u103v2 => exact fun _ _ _ h => h
                  case s5_u103v2 => exact Or.inr ⟨rfl, rfl⟩
                  case s6_u103v2 => assumption
                  try simp only [Act.put, List.setIfInBounds_toArray, List.set_cons_zero, List.set_cons_succ]
                  with_reducible refine takeI2 (i := 14) (v := undef) (oi := ?s0_u104v2) (by simp only [List.getElem?_toArray, List.getElem?_cons_succ, List.getElem?_cons_zero]; exact rfl) ?s1_u104v2 ?s2_u104v2 ?s3_u104v2 ?s4_u104v2 ?s5_u104v2 ?s6_u104v2 ?s7_u104v2
                  case s1_u104v2 | s2_u104v2 | s3_u104v2 => kernel_rfl
                  case s4_u104v2 => exact fun _ _ _ h => h
                  case s5_u104v2 => exact Or.inr ⟨rfl, rfl⟩
                  case s6_u104v2 => assumption
                  try simp only [Act.put, List.setIfInBounds_toArray, List.set_cons_zero, List.set_cons_succ]
                  with_reducible refine takeI2 (i := 15) (v := undef) (oi := ?s0_u105v2) (by simp only [List.getElem?_toArray, List.getElem?_cons_succ, List.getElem?_cons_zero]; exact rfl) ?s1_u105v2 ?s2_u105v2 ?s3_u105v2 ?s4_u105v2 ?s5_u105v2 ?s6_u105v2 ?s7_u105v2
                  case s1_u105v2 | s2_u105v2 | s3_u105v2 => kernel_rfl
                  case s4_u105v2 => exact fun _ _ _ h => h
                  case s5_u105v2 => exact Or.inr ⟨rfl, rfl⟩
                  case s6_u105v2 => assumption
                  try simp only [Act.put, List.setIfInBounds_toArray, List.set_cons_zero, List.set_cons_succ]
                  with_reducible refine takeI2 (i := 16) (v := undef) (oi := ?s0_u106v2) (by simp only [List.getElem?_toArray, List.getElem?_cons_succ, List.getElem?_cons_zero]; exact rfl) ?s1_u106v2 ?s2_u106v2 ?s3_u106v2 ?s4_u106v2 ?s5_u106v2 ?s6_u106v2 ?s7_u106v2
                  case s1_u106v2 | s2_u106v2 | s3_u106v2 => kernel_rfl
                  case s4_u106v2 => exact fun _ _ _ h => h
                  case s5_u106v2 => exact Or.inr ⟨rfl, rfl⟩
                  case s6_u106v2 => assumption
                  try simp only [Act.put, List.setIfInBounds_toArray, List.set_cons_zero, List.set_cons_succ]
                  with_reducible refine takeI2 (i := 17) (v := undef) (oi := ?s0_u107v2) (by simp only [List.getElem?_toArray, List.getElem?_cons_succ, List.getElem?_cons_zero]; exact rfl) ?s1_u107v2 ?s2_u107v2 ?s3_u107v2 ?s4_u107v2 ?s5_u107v2 ?s6_u107v2 ?s7_u107v2
                  case s1_u107v2 | s2_u107v2 | s3_u107v2 => kernel_rfl
                  case s4_u107v2 => exact fun _ _ _ h => h
                  case s5_u107v2 => exact Or.inr ⟨rfl, rfl⟩
                  case s6_u107v2 => assumption
                  try simp only [Act.put, List.setIfInBounds_toArray, List.set_cons_zero, List.set_cons_succ]
                  with_reducible refine takeI2 (i := 18) (v := undef) (oi := ?s0_u108v2) (by simp only [List.getElem?_toArray, List.getElem?_cons_succ, List.getElem?_cons_zero]; exact rfl) ?s1_u108v2 ?s2_u108v2 ?s3_u108v2 ?s4_u108v2 ?s5_u108v2 ?s6_u108v2 ?s7_u108v2
                  case s1_u108v2 | s2_u108v2 | s3_u108v2 => kernel_rfl
                  case s4_u108v2 => exact fun _ _ _ h => h
                  case s5_u108v2 => exact Or.inr ⟨rfl, rfl⟩
                  case s6_u108v2 => assumption
                  try simp only [Act.put, List.setIfInBounds_toArray, List.set_cons_zero, List.set_cons_succ]
                  with_reducible refine takeI2 (i := 19) (v := ?sv_u109v2) (oi := ?s0_u109v2) (by simp only [List.getElem?_toArray, List.getElem?_cons_succ, List.getElem?_cons_zero]; exact rfl) ?s1_u109v2 ?s2_u109v2 ?s3_u109v2 ?s4_u109v2 ?s5_u109v2 ?s6_u109v2 ?s7_u109v2
                  case s1_u109v2 | s2_u109v2 | s3_u109v2 => kernel_rfl
                  case s4_u109v2 => exact fun _ _ _ h => h
                  case s5_u109v2 => exact Or.inl ⟨rfl, by intro w hSw; (try dsimp only at hSw); go_simp; try with_reducible rfl⟩
                  case s6_u109v2 => assumption
                  try simp only [Act.put, List.setIfInBounds_toArray, List.set_cons_zero, List.set_cons_succ]
                  with_reducible refine takeI2 (i := 20) (v := ?sv_u110v2) (oi := ?s0_u110v2) (by simp only [List.getElem?_toArray, List.getElem?_cons_succ, List.getElem?_cons_zero]; exact rfl) ?s1_u110v2 ?s2_u110v2 ?s3_u110v2 ?s4_u110v2 ?s5_u110v2 ?s6_u110v2 ?s7_u110v2
                  case s1_u110v2 | s2_u110v2 | s3_u110v2 => kernel_rfl
                  case s4_u110v2 => exact fun _ _ _ h => h
                  case s5_u110v2 => exact Or.inl ⟨rfl, by intro w hSw; (try dsimp only at hSw); go_simp; try with_reducible rfl⟩
                  case s6_u110v2 => assumption
                  try simp only [Act.put, List.setIfInBounds_toArray, List.set_cons_zero, List.set_cons_succ]
                  with_reducible refine takeI2 (i := 21) (v := ?sv_u111v2) (oi := ?s0_u111v2) (by simp only [List.getElem?_toArray, List.getElem?_cons_succ, List.getElem?_cons_zero]; exact rfl) ?s1_u111v2 ?s2_u111v2 ?s3_u111v2 ?s4_u111v2 ?s5_u111v2 ?s6_u111v2 ?s7_u111v2
                  case s1_u111v2 | s2_u111v2 | s3_u111v2 => kernel_rfl
                  case s4_u111v2 => exact fun _ _ _ h => h
                  case s5_u111v2 => exact Or.inl ⟨rfl, by intro w hSw; (try dsimp only at hSw); go_simp; try with_reducible rfl⟩
                  case s6_u111v2 => assumption
                  try simp only [Act.put, List.setIfInBounds_toArray, List.set_cons_zero, List.set_cons_succ]
                  with_reducible refine takeI2 (i := 22) (v := ?sv_u112v2) (oi := ?s0_u112v2) (by simp only [List.getElem?_toArray, List.getElem?_cons_succ, List.getElem?_cons_zero]; exact rfl) ?s1_u112v2 ?s2_u112v2 ?s3_u112v2 ?s4_u112v2 ?s5_u112v2 ?s6_u112v2 ?s7_u112v2
                  case s1_u112v2 | s2_u112v2 | s3_u112v2 => kernel_rfl
                  case s4_u112v2 => exact fun _ _ _ h => h
                  case s5_u112v2 => exact Or.inl ⟨rfl, by intro w hSw; (try dsimp only at hSw); go_simp; try with_reducible rfl⟩
                  case s6_u112v2 => assumption
                  try simp only [Act.put, List.setIfInBounds_toArray, List.set_cons_zero, List.set_cons_succ]
                  with_reducible refine takeI2 (i := 23) (v := ?sv_u113v2) (oi := ?s0_u113v2) (by simp only [List.getElem?_toArray, List.getElem?_cons_succ, List.getElem?_cons_zero]; exact rfl) ?s1_u113v2 ?s2_u113v2 ?s3_u113v2 ?s4_u113v2 ?s5_u113v2 ?s6_u113v2 ?s7_u113v2
                  case s1_u113v2 | s2_u113v2 | s3_u113v2 => kernel_rfl
                  case s4_u113v2 => exact fun _ _ _ h => h
                  case s5_u113v2 => exact Or.inl ⟨rfl, by intro w hSw; (try dsimp only at hSw); go_simp; try with_reducible rfl⟩
                  case s6_u113v2 => assumption
                  try simp only [Act.put, List.setIfInBounds_toArray, List.set_cons_zero, List.set_cons_succ]
                  with_reducible refine takeI2 (i := 24) (v := ?sv_u114v2) (oi := ?s0_u114v2) (by simp only [List.getElem?_toArray, List.getElem?_cons_succ, List.getElem?_cons_zero]; exact rfl) ?s1_u114v2 ?s2_u114v2 ?s3_u114v2 ?s4_u114v2 ?s5_u114v2 ?s6_u114v2 ?s7_u114v2
                  case s1_u114v2 | s2_u114v2 | s3_u114v2 => kernel_rfl
                  case s4_u114v2 => exact fun _ _ _ h => h
                  case s5_u114v2 => exact Or.inl ⟨rfl, by intro w hSw; (try dsimp only at hSw); go_simp; try with_reducible rfl⟩
                  case s6_u114v2 => assumption
                  try simp only [Act.put, List.setIfInBounds_toArray, List.set_cons_zero, List.set_cons_succ]
                  with_reducible refine takeI2 (i := 25) (v := ?sv_u115v2) (oi := ?s0_u115v2) (by simp only [List.getElem?_toArray, List.getElem?_cons_succ, List.getElem?_cons_zero]; exact rfl) ?s1_u115v2 ?s2_u115v2 ?s3_u115v2 ?s4_u115v2 ?s5_u115v2 ?s6_u115v2 ?s7_u115v2
                  case s1_u115v2 | s2_u115v2 | s3_u115v2 => kernel_rfl
                  case s4_u115v2 => exact fun _ _ _ h => h
                  case s5_u115v2 => exact Or.inl ⟨rfl, by intro w hSw; (try dsimp only at hSw); go_simp; try with_reducible rfl⟩
                  case s6_u115v2 => assumption
                  try simp only [Act.put, List.setIfInBounds_toArray, List.set_cons_zero, List.set_cons_succ]
                  with_reducible refine takeI2 (i := 26) (v := ?sv_u116v2) (oi := ?s0_u116v2) (by simp only [List.getElem?_toArray, List.getElem?_cons_succ, List.getElem?_cons_zero]; exact rfl) ?s1_u116v2 ?s2_u116v2 ?s3_u116v2 ?s4_u116v2 ?s5_u116v2 ?s6_u116v2 ?s7_u116v2
                  case s1_u116v2 | s2_u116v2 | s3_u116v2 => kernel_rfl
                  case s4_u116v2 => exact fun _ _ _ h => h
                  case s5_u116v2 => exact Or.inl ⟨rfl, by intro w hSw; (try dsimp only at hSw); go_simp; try with_reducible rfl⟩
                  case s6_u116v2 => assumption
                  try simp only [Act.put, List.setIfInBounds_toArray, List.set_cons_zero, List.set_cons_succ]
                  with_reducible refine takeI2 (i := 27) (v := ?sv_u117v2) (oi := ?s0_u117v2) (by simp only [List.getElem?_toArray, List.getElem?_cons_succ, List.getElem?_cons_zero]; exact rfl) ?s1_u117v2 ?s2_u117v2 ?s3_u117v2 ?s4_u117v2 ?s5_u117v2 ?s6_u117v2 ?s7_u117v2
                  case s1_u117v2 | s2_u117v2 | s3_u117v2 => kernel_rfl
                  case s4_u117v2 => exact fun _ _ _ h => h
                  case s5_u117v2 => exact Or.inl ⟨rfl, by intro w hSw; (try dsimp only at hSw); go_simp; try with_reducible rfl⟩
                  case s6_u117v2 => assumption
                  try simp only [Act.put, List.setIfInBounds_toArray, List.set_cons_zero, List.set_cons_succ]
                  with_reducible refine takeI2 (i := 28) (v := ?sv_u118v2) (oi := ?s0_u118v2) (by simp only [List.getElem?_toArray, List.getElem?_cons_succ, List.getElem?_cons_zero]; exact rfl) ?s1_u118v2 ?s2_u118v2 ?s3_u118v2 ?s4_u118v2 ?s5_u118v2 ?s6_u118v2 ?s7_u118v2
                  case s1_u118v2 | s2_u118v2 | s3_u118v2 => kernel_rfl
                  case s4_u118v2 => exact fun _ _ _ h => h
                  case s5_u118v2 => exact Or.inl ⟨rfl, by intro w hSw; (try dsimp only at hSw); go_simp; try with_reducible rfl⟩
                  case s6_u118v2 => assumption
                  try simp only [Act.put, List.setIfInBounds_toArray, List.set_cons_zero, List.set_cons_succ]
                  with_reducible refine takeI2 (i := 29) (v := ?sv_u119v2) (oi := ?s0_u119v2) (by simp only [List.getElem?_toArray, List.getElem?_cons_succ, List.getElem?_cons_zero]; exact rfl) ?s1_u119v2 ?s2_u119v2 ?s3_u119v2 ?s4_u119v2 ?s5_u119v2 ?s6_u119v2 ?s7_u119v2
                  case s1_u119v2 | s2_u119v2 | s3_u119v2 => kernel_rfl
                  case s4_u119v2 => exact fun _ _ _ h => h
                  case s5_u119v2 => exact Or.inl ⟨rfl, by intro w hSw; (try dsimp only at hSw); go_simp; try with_reducible rfl⟩
                  case s6_u119v2 => assumption
                  try simp only [Act.put, List.setIfInBounds_toArray, List.set_cons_zero, List.set_cons_succ]
                  with_reducible refine takeI2 (i := 30) (v := ?sv_u120v2) (oi := ?s0_u120v2) (by simp only [List.getElem?_toArray, List.getElem?_cons_succ, List.getElem?_cons_zero]; exact rfl) ?s1_u120v2 ?s2_u120v2 ?s3_u120v2 ?s4_u120v2 ?s5_u120v2 ?s6_u120v2 ?s7_u120v2
                  case s1_u120v2 | s2_u120v2 | s3_u120v2 => kernel_rfl
                  case s4_u120v2 => exact fun _ _ _ h => h
                  case s5_u120v2 => exact Or.inl ⟨rfl, by intro w hSw; (try dsimp only at hSw); go_simp; try with_reducible rfl⟩
                  case s6_u120v2 => assumption
                  try simp only [Act.put, List.setIfInBounds_toArray, List.set_cons_zero, List.set_cons_succ]
                  with_reducible refine takeI2 (i := 31) (v := undef) (oi := ?s0_u121v2) (by simp only [List.getElem?_toArray, List.getElem?_cons_succ, List.getElem?_cons_zero]; exact rfl) ?s1_u121v2 ?s2_u121v2 ?s3_u121v2 ?s4_u121v2 ?s5_u121v2 ?s6_u121v2 ?s7_u121v2
                  case s1_u121v2 | s2_u121v2 | s3_u121v2 => kernel_rfl
                  case s4_u121v2 => exact fun _ _ _ h => h
                  case s5_u121v2 => exact Or.inr ⟨rfl, rfl⟩
                  case s6_u121v2 => assumption
                  try simp only [Act.put, List.setIfInBounds_toArray, List.set_cons_zero, List.set_cons_succ]
                  with_reducible refine takeI2 (i := 32) (v := undef) (oi := ?s0_u122v2) (by simp only [List.getElem?_toArray, List.getElem?_cons_succ, List.getElem?_cons_zero]; exact rfl) ?s1_u122v2 ?s2_u122v2 ?s3_u122v2 ?s4_u122v2 ?s5_u122v2 ?s6_u122v2 ?s7_u122v2
                  case s1_u122v2 | s2_u122v2 | s3_u122v2 => kernel_rfl
                  case s4_u122v2 => exact fun _ _ _ h => h
                  case s5_u122v2 => exact Or.inr ⟨rfl, rfl⟩
                  case s6_u122v2 => assumption
                  try simp only [Act.put, List.setIfInBounds_toArray, List.set_cons_zero, List.set_cons_succ]
                  with_reducible refine takeI2 (i := 33) (v := undef) (oi := ?s0_u123v2) (by simp only [List.getElem?_toArray, List.getElem?_cons_succ, List.getElem?_cons_zero]; exact rfl) ?s1_u123v2 ?s2_u123v2 ?s3_u123v2 ?s4_u123v2 ?s5_u123v2 ?s6_u123v2 ?s7_u123v2
                  case s1_u123v2 | s2_u123v2 | s3_u123v2 => kernel_rfl
                  case s4_u123v2 => exact fun _ _ _ h => h
                  case s5_u123v2 => exact Or.inr ⟨rfl, rfl⟩
                  case s6_u123v2 => assumption
                  try simp only [Act.put, List.setIfInBounds_toArray, List.set_cons_zero, List.set_cons_succ]
                  with_reducible refine takeI2 (i := 34) (v := undef) (oi := ?s0_u124v2) (by simp only [List.getElem?_toArray, List.getElem?_cons_succ, List.getElem?_cons_zero]; exact rfl) ?s1_u124v2 ?s2_u124v2 ?s3_u124v2 ?s4_u124v2 ?s5_u124v2 ?s6_u124v2 ?s7_u124v2
                  case s1_u124v2 | s2_u124v2 | s3_u124v2 => kernel_rfl
                  case s4_u124v2 => exact fun _ _ _ h => h
                  case s5_u124v2 => exact Or.inr ⟨rfl, rfl⟩
                  case s6_u124v2 => assumption
                  try simp only [Act.put, List.setIfInBounds_toArray, List.set_cons_zero, List.set_cons_succ]
                  with_reducible refine takeI2 (i := 35) (v := undef) (oi := ?s0_u125v2) (by simp only [List.getElem?_toArray, List.getElem?_cons_succ, List.getElem?_cons_zero]; exact rfl) ?s1_u125v2 ?s2_u125v2 ?s3_u125v2 ?s4_u125v2 ?s5_u125v2 ?s6_u125v2 ?s7_u125v2
                  case s1_u125v2 | s2_u125v2 | s3_u125v2 => kernel_rfl
                  case s4_u125v2 => exact fun _ _ _ h => h
                  case s5_u125v2 => exact Or.inr ⟨rfl, rfl⟩
                  case s6_u125v2 => assumption
                  try simp only [Act.put, List.setIfInBounds_toArray, List.set_cons_zero, List.set_cons_succ]
                  with_reducible refine takeI2 (i := 36) (v := undef) (oi := ?s0_u126v2) (by simp only [List.getElem?_toArray, List.getElem?_cons_succ, List.getElem?_cons_zero]; exact rfl) ?s1_u126v2 ?s2_u126v2 ?s3_u126v2 ?s4_u126v2 ?s5_u126v2 ?s6_u126v2 ?s7_u126v2
                  case s1_u126v2 | s2_u126v2 | s3_u126v2 => kernel_rfl
                  case s4_u126v2 => exact fun _ _ _ h => h
                  case s5_u126v2 => exact Or.inr ⟨rfl, rfl⟩
                  case s6_u126v2 => assumption
                  try simp only [Act.put, List.setIfInBounds_toArray, List.set_cons_zero, List.set_cons_succ]
                  with_reducible refine takeI2 (i := 37) (v := undef) (oi := ?s0_u127v2) (by simp only [List.getElem?_toArray, List.getElem?_cons_succ, List.getElem?_cons_zero]; exact rfl) ?s1_u127v2 ?s2_u127v2 ?s3_u127v2 ?s4_u127v2 ?s5_u127v2 ?s6_u127v2 ?s7_u127v2
                  case s1_u127v2 | s2_u127v2 | s3_u127v2 => kernel_rfl
                  case s4_u127v2 => exact fun _ _ _ h => h
                  case s5_u127v2 => exact Or.inr ⟨rfl, rfl⟩
                  case s6_u127v2 => assumption
                  try simp only [Act.put, List.setIfInBounds_toArray, List.set_cons_zero, List.set_cons_succ]
                  with_reducible refine takeI2 (i := 38) (v := undef) (oi := ?s0_u128v2) (by simp only [List.getElem?_toArray, List.getElem?_cons_succ, List.getElem?_cons_zero]; exact rfl) ?s1_u128v2 ?s2_u128v2 ?s3_u128v2 ?s4_u128v2 ?s5_u128v2 ?s6_u128v2 ?s7_u128v2
                  case s1_u128v2 | s2_u128v2 | s3_u128v2 => kernel_rfl
                  case s4_u128v2 => exact fun _ _ _ h => h
                  case s5_u128v2 => exact Or.inr ⟨rfl, rfl⟩
                  case s6_u128v2 => assumption
                  try simp only [Act.put, List.setIfInBounds_toArray, List.set_cons_zero, List.set_cons_succ]
                  with_reducible refine takeI2 (i := 39) (v := undef) (oi := ?s0_u129v2) (by simp only [List.getElem?_toArray, List.getElem?_cons_succ, List.getElem?_cons_zero]; exact rfl) ?s1_u129v2 ?s2_u129v2 ?s3_u129v2 ?s4_u129v2 ?s5_u129v2 ?s6_u129v2 ?s7_u129v2
                  case s1_u129v2 | s2_u129v2 | s3_u129v2 => kernel_rfl
                  case s4_u129v2 => exact fun _ _ _ h => h
                  case s5_u129v2 => exact Or.inr ⟨rfl, rfl⟩
                  case s6_u129v2 => assumption
                  try simp only [Act.put, List.setIfInBounds_toArray, List.set_cons_zero, List.set_cons_succ]
                  with_reducible refine takeI2 (i := 40) (v := ?sv_u130v2) (oi := ?s0_u130v2) (by simp only [List.getElem?_toArray, List.getElem?_cons_succ, List.getElem?_cons_zero]; exact rfl) ?s1_u130v2 ?s2_u130v2 ?s3_u130v2 ?s4_u130v2 ?s5_u130v2 ?s6_u130v2 ?s7_u130v2
                  case s1_u130v2 | s2_u130v2 | s3_u130v2 => kernel_rfl
                  case s4_u130v2 => exact fun _ _ _ h => h
                  case s5_u130v2 => exact Or.inl ⟨rfl, by intro w hSw; (try dsimp only at hSw); go_simp; try with_reducible rfl⟩
                  case s6_u130v2 => assumption
                  try simp only [Act.put, List.setIfInBounds_toArray, List.set_cons_zero, List.set_cons_succ]
                  with_reducible refine takeI2 (i := 41) (v := ?sv_u131v2) (oi := ?s0_u131v2) (by simp only [List.getElem?_toArray, List.getElem?_cons_succ, List.getElem?_cons_zero]; exact rfl) ?s1_u131v2 ?s2_u131v2 ?s3_u131v2 ?s4_u131v2 ?s5_u131v2 ?s6_u131v2 ?s7_u131v2
                  case s1_u131v2 | s2_u131v2 | s3_u131v2 => kernel_rfl
                  case s4_u131v2 => exact fun _ _ _ h => h
                  case s5_u131v2 => exact Or.inl ⟨rfl, by intro w hSw; (try dsimp only at hSw); go_simp; try with_reducible rfl⟩
                  case s6_u131v2 => assumption
                  try simp only [Act.put, List.setIfInBounds_toArray, List.set_cons_zero, List.set_cons_succ]
                  with_reducible refine wpAnyH_done ?s1_u132v2 ?s2_u132v2 _
                  case s1_u132v2 => kernel_rfl
                  go_wp2_with (fail)
                  exact ⟨⟨j + 1, by omega, by go_num, hD.next _⟩, by simp [intOf]; omega⟩
              · go_wp2_with (fail)
                exact ⟨⟨k + 1, by omega, by go_num, hD⟩, by simp [intOf]; omega⟩
          · replace hr := hr.below hD.below
            replace hB := bvia hB hD.below
            clear hD
            go_wp2_with (fail)
            refine (at_any n 4 (by omega) (by omega) _ _ _ hr).mono ?_
            rintro e w20 ⟨xe, rfl, xe0, xe1, hd⟩
            replace hB := bvia hB hd.below
            clear hd hr
            obtain ⟨kq, kqe⟩ : ∃ r, xe % 50 = r := ⟨_, rfl⟩
            have kq1 : xe.tmod 50 = kq := by rw [Int.tmod_eq_emod_of_nonneg xe0]; exact kqe
            have kq2 : 0 ≤ kq ∧ kq ≤ 49 := by omega
            obtain ⟨kn, rfl⟩ : ∃ m : Nat, kq = m := ⟨kq.toNat, by omega⟩
            have hcv := covers_yes kn (by omega)
            have HC1 := Lib.hid (fun v w' h => implCoversAll_any [[0, (kn : Int)], [(kn : Int) + 1, 60]] 0 60 v w' h)
            have HC2 := Lib.hid (fun v w' h => implCoversAll_any [[0, (kn : Int)], [(kn : Int) + 2, 60]] 0 60 v w' h)
            rw [hcv.1] at HC1
            rw [hcv.2] at HC2
            clear hcv kqe
            have HL1 := Lib.hid (covLit w20 0 kn ((kn : Int) + 1) 60)
            go_wp2_with (fail)
            refine (HC1.out _ _ HL1.out.1).mono ?_
            rintro e w21 ⟨rfl, rfl⟩
            have hB2 := bvia hB HL1.out.2
            generalize ((w20.alloc (.cells #[.int .i64 0, .int .i64 (kn : Int)] 3)).alloc (.cells #[.int .i64 ((kn : Int) + 1), .int .i64 60] 3)).alloc (.cells #[.slice (some ⟨w20.heap.size, 0, none⟩) 2 2, .slice (some ⟨w20.heap.size + 1, 0, none⟩) 2 2] 27) = w22 at hB2 ⊢
            clear HL1 hB
            have HL2 := Lib.hid (covLit w22 0 kn ((kn : Int) + 2) 60)
            go_wp2_with (fail)
            refine (HC2.out _ _ HL2.out.1).mono ?_
            rintro e w23 ⟨rfl, rfl⟩
            have hB3 := bvia hB2 HL2.out.2
            clear HL2 hB2
            go_wp2_with (fail)
            refine (HSS.out _ _ _ _).mono ?_
            rw [size_last]
            rintro e w24 ⟨rfl, rfl⟩
            go_wp2_with (fail)
            go_returns
            exact ⟨rfl, hB3⟩
    · have hg5 : g < 1 := by omega
      have hg6 : decide (1 ≤ g) = false := decide_eq_false hg1
      have hG3 := HG3.out hg5
      have HS1 := Lib.hid (fun w' => HSS.out z 1 s w')
      generalize shadowSize z 1 s = S1 at HS1 hG3
      have hG6 : decide (q ≤ S1) = false := decide_eq_false (by omega)
      clear hG3 HG2 HG3
      go_simp
      iterate 22 (try (first | go_values | go_skip | go_guarded | go_step | go_upon))
      rename_i kx hx
      with_reducible refine hx _ _ ?_
      with_reducible refine wpList_nil_app ?_
      clear hx kx
      dsimp only [List.append]
      go_big_skip
      go_wp2_with (fail)
      refine (HS1.out _).mono ?_
      rintro e w14 ⟨rfl, rfl⟩
      have HFQ := Lib.hid HCS2.out
      have hD0 := Dr.refl w13
      clear hh hs
      go_wp2_with (fail)
      go_loopw [14] (fun i wr => ∃ k : Nat, k ≤ N ∧ i = .int .i64 k ∧ Dr w13 wr) (fun i _ => N - (intOf i).toNat)
      case atStart => exact ⟨0, Nat.zero_le _, rfl, hD0⟩
      case round =>
       focus
        clear hD0
        obtain ⟨k, hk, rfl, hD⟩ := hrel
        obtain ⟨wo, hwo⟩ : ∃ wo : World, wo = wr := ⟨_, rfl⟩
        subst hwo
        by_cases hkN : k < N
        · have qk : (k : Int) < (N : Int) := by omega
          go_wp2_with (fail)
          go_loopw [15] (fun i wr => ∃ j : Nat, j ≤ k ∧ i = .int .i64 j ∧ Dr w13 wr) (fun i _ => k - (intOf i).toNat)
          case atStart => exact ⟨0, Nat.zero_le _, rfl, hD⟩
          case round =>
           focus
            clear hD
            obtain ⟨j, hj, rfl, hD⟩ := hrel
            by_cases hjk : j < k
            · obtain rfl := hah (by omega)
              obtain rfl := has (by omega)
              have qj : (j : Int) < (k : Int) := by omega
              have qjN : (j : Int) < (N : Int) := by omega
              have c0 := hD.cell (HFQ.out.1 j (by omega))
              have c1 := hD.cell (HFQ.out.1 k hkN)
              have c2 := hD.cell (HFQ.out.2 j (by omega))
              have c3 := hD.cell (HFQ.out.2 k hkN)
              have hm := HSM.out j k
              have he : f j = f k → shadowAt 20 p s (f j) = shadowAt 20 p s (f k) := fun h => by rw [h]
              generalize shadowAt 20 p s (f j) = sx at c2 hm he
              generalize shadowAt 20 p s (f k) = sy at c3 hm he
              generalize f j = x at c0 hm he
              generalize f k = y at c1 hm he
              rcases (by omega : x < y ∨ x = y ∨ y < x) with h | h | h
              · have h1 : decide (sy < sx) = false := decide_eq_false (by have := hm (by omega); omega)
                have h2 : (x == y) = false := beq_eq_false_iff_ne.2 (by omega)
                have h3 : ¬ x = y := by omega
                clear hm he
                go_wp2_with (fail)
                have q0 := cell_on (dr1 wr).below c0
                have q1 := cell_on (dr1 wr).below c1
                have q2 := cell_on (dr1 wr).below c2
                have q3 := cell_on (dr1 wr).below c3
                clear c0 c1 c2 c3
                with_reducible refine region_beg (n := 42) (S := (fun w => w.cell? ⟨bH, oH + j, none⟩ = some (.int .i64 x) ∧ w.cell? ⟨bH, oH + k, none⟩ = some (.int .i64 y) ∧ w.cell? ⟨bS, oS + j, none⟩ = some (.int .i64 sx) ∧ w.cell? ⟨bS, oS + k, none⟩ = some (.int .i64 sy))) ?b1_u1v3 ?b2_u1v3 ?b3_u1v3 (fun hHeld => ?b4_u1v3)
                case b1_u1v3 => kernel_rfl
                case b2_u1v3 => kernel_rfl
                case b3_u1v3 => exact ⟨q0, q1, q2, q3⟩
                with_reducible refine takeI2 (i := 0) (v := ?sv_u2v3) (oi := ?s0_u2v3) (by simp only [List.getElem?_toArray, List.getElem?_cons_succ, List.getElem?_cons_zero]; exact rfl) ?s1_u2v3 ?s2_u2v3 ?s3_u2v3 ?s4_u2v3 ?s5_u2v3 ?s6_u2v3 ?s7_u2v3
                case s1_u2v3 | s2_u2v3 | s3_u2v3 => kernel_rfl
                case s4_u2v3 => exact fun _ _ _ h => h
                case s5_u2v3 => exact Or.inl ⟨rfl, by intro w hSw; (try dsimp only at hSw); go_simp; try with_reducible rfl⟩
                case s6_u2v3 => assumption
                try simp only [Act.put, List.setIfInBounds_toArray, List.set_cons_zero, List.set_cons_succ]
                with_reducible refine takeI2 (i := 1) (v := ?sv_u3v3) (oi := ?s0_u3v3) (by simp only [List.getElem?_toArray, List.getElem?_cons_succ, List.getElem?_cons_zero]; exact rfl) ?s1_u3v3 ?s2_u3v3 ?s3_u3v3 ?s4_u3v3 ?s5_u3v3 ?s6_u3v3 ?s7_u3v3
                case s1_u3v3 | s2_u3v3 | s3_u3v3 => kernel_rfl
                case s4_u3v3 => exact fun _ _ _ h => h
                case s5_u3v3 => exact Or.inl ⟨rfl, by intro w hSw; (try dsimp only at hSw); go_simp; try with_reducible rfl⟩
                case s6_u3v3 => assumption
                try simp only [Act.put, List.setIfInBounds_toArray, List.set_cons_zero, List.set_cons_succ]
                with_reducible refine takeI2 (i := 2) (v := ?sv_u4v3) (oi := ?s0_u4v3) (by simp only [List.getElem?_toArray, List.getElem?_cons_succ, List.getElem?_cons_zero]; exact rfl) ?s1_u4v3 ?s2_u4v3 ?s3_u4v3 ?s4_u4v3 ?s5_u4v3 ?s6_u4v3 ?s7_u4v3
                case s1_u4v3 | s2_u4v3 | s3_u4v3 => kernel_rfl
                case s4_u4v3 => exact fun _ _ _ h => h
                case s5_u4v3 => exact Or.inl ⟨rfl, by intro w hSw; (try dsimp only at hSw); go_simp; try with_reducible rfl⟩
                case s6_u4v3 => assumption
                try simp only [Act.put, List.setIfInBounds_toArray, List.set_cons_zero, List.set_cons_succ]
                with_reducible refine takeI2 (i := 3) (v := ?sv_u5v3) (oi := ?s0_u5v3) (by simp only [List.getElem?_toArray, List.getElem?_cons_succ, List.getElem?_cons_zero]; exact rfl) ?s1_u5v3 ?s2_u5v3 ?s3_u5v3 ?s4_u5v3 ?s5_u5v3 ?s6_u5v3 ?s7_u5v3
                case s1_u5v3 | s2_u5v3 | s3_u5v3 => kernel_rfl
                case s4_u5v3 => exact fun _ _ _ h => h
                case s5_u5v3 => exact Or.inl ⟨rfl, by intro w hSw; (try dsimp only at hSw); go_simp; try with_reducible rfl⟩
                case s6_u5v3 => assumption
                try simp only [Act.put, List.setIfInBounds_toArray, List.set_cons_zero, List.set_cons_succ]
                with_reducible refine takeI2 (i := 4) (v := ?sv_u6v3) (oi := ?s0_u6v3) (by simp only [List.getElem?_toArray, List.getElem?_cons_succ, List.getElem?_cons_zero]; exact rfl) ?s1_u6v3 ?s2_u6v3 ?s3_u6v3 ?s4_u6v3 ?s5_u6v3 ?s6_u6v3 ?s7_u6v3
                case s1_u6v3 | s2_u6v3 | s3_u6v3 => kernel_rfl
                case s4_u6v3 => exact fun _ _ _ h => h
                case s5_u6v3 => exact Or.inl ⟨rfl, by intro w hSw; (try dsimp only at hSw); go_simp; try with_reducible rfl⟩
                case s6_u6v3 => assumption
                try simp only [Act.put, List.setIfInBounds_toArray, List.set_cons_zero, List.set_cons_succ]
                with_reducible refine takeI2 (i := 5) (v := ?sv_u7v3) (oi := ?s0_u7v3) (by simp only [List.getElem?_toArray, List.getElem?_cons_succ, List.getElem?_cons_zero]; exact rfl) ?s1_u7v3 ?s2_u7v3 ?s3_u7v3 ?s4_u7v3 ?s5_u7v3 ?s6_u7v3 ?s7_u7v3
                case s1_u7v3 | s2_u7v3 | s3_u7v3 => kernel_rfl
                case s4_u7v3 => exact fun _ _ _ h => h
                case s5_u7v3 => exact Or.inl ⟨rfl, by intro w hSw; (try dsimp only at hSw); go_simp; try with_reducible rfl⟩
                case s6_u7v3 => assumption
                try simp only [Act.put, List.setIfInBounds_toArray, List.set_cons_zero, List.set_cons_succ]
                with_reducible refine takeI2 (i := 6) (v := ?sv_u8v3) (oi := ?s0_u8v3) (by simp only [List.getElem?_toArray, List.getElem?_cons_succ, List.getElem?_cons_zero]; exact rfl) ?s1_u8v3 ?s2_u8v3 ?s3_u8v3 ?s4_u8v3 ?s5_u8v3 ?s6_u8v3 ?s7_u8v3
                case s1_u8v3 | s2_u8v3 | s3_u8v3 => kernel_rfl
                case s4_u8v3 => exact fun _ _ _ h => h
                case s5_u8v3 => exact Or.inl ⟨rfl, by intro w hSw; (try dsimp only at hSw); go_simp; try with_reducible rfl⟩
                case s6_u8v3 => assumption
                try simp only [Act.put, List.setIfInBounds_toArray, List.set_cons_zero, List.set_cons_succ]
                with_reducible refine takeI2 (i := 7) (v := ?sv_u9v3) (oi := ?s0_u9v3) (by simp only [List.getElem?_toArray, List.getElem?_cons_succ, List.getElem?_cons_zero]; exact rfl) ?s1_u9v3 ?s2_u9v3 ?s3_u9v3 ?s4_u9v3 ?s5_u9v3 ?s6_u9v3 ?s7_u9v3
                case s1_u9v3 | s2_u9v3 | s3_u9v3 => kernel_rfl
                case s4_u9v3 => exact fun _ _ _ h => h
                case s5_u9v3 => exact Or.inl ⟨rfl, by intro w hSw; (try dsimp only at hSw); go_simp; try with_reducible rfl⟩
                case s6_u9v3 => assumption
                try simp only [Act.put, List.setIfInBounds_toArray, List.set_cons_zero, List.set_cons_succ]
                with_reducible refine takeI2 (i := 8) (v := ?sv_u10v3) (oi := ?s0_u10v3) (by simp only [List.getElem?_toArray, List.getElem?_cons_succ, List.getElem?_cons_zero]; exact rfl) ?s1_u10v3 ?s2_u10v3 ?s3_u10v3 ?s4_u10v3 ?s5_u10v3 ?s6_u10v3 ?s7_u10v3
                case s1_u10v3 | s2_u10v3 | s3_u10v3 => kernel_rfl
                case s4_u10v3 => exact fun _ _ _ h => h
                case s5_u10v3 => exact Or.inl ⟨rfl, by intro w hSw; (try dsimp only at hSw); go_simp; try with_reducible rfl⟩
                case s6_u10v3 => assumption
                try simp only [Act.put, List.setIfInBounds_toArray, List.set_cons_zero, List.set_cons_succ]
                with_reducible refine takeI2 (i := 9) (v := ?sv_u11v3) (oi := ?s0_u11v3) (by simp only [List.getElem?_toArray, List.getElem?_cons_succ, List.getElem?_cons_zero]; exact rfl) ?s1_u11v3 ?s2_u11v3 ?s3_u11v3 ?s4_u11v3 ?s5_u11v3 ?s6_u11v3 ?s7_u11v3
                case s1_u11v3 | s2_u11v3 | s3_u11v3 => kernel_rfl
                case s4_u11v3 => exact fun _ _ _ h => h
                case s5_u11v3 => exact Or.inl ⟨rfl, by intro w hSw; (try dsimp only at hSw); go_simp; try with_reducible rfl⟩
                case s6_u11v3 => assumption
                try simp only [Act.put, List.setIfInBounds_toArray, List.set_cons_zero, List.set_cons_succ]
                with_reducible refine takeI2 (i := 10) (v := ?sv_u12v3) (oi := ?s0_u12v3) (by simp only [List.getElem?_toArray, List.getElem?_cons_succ, List.getElem?_cons_zero]; exact rfl) ?s1_u12v3 ?s2_u12v3 ?s3_u12v3 ?s4_u12v3 ?s5_u12v3 ?s6_u12v3 ?s7_u12v3
                case s1_u12v3 | s2_u12v3 | s3_u12v3 => kernel_rfl
                case s4_u12v3 => exact fun _ _ _ h => h
                case s5_u12v3 => exact Or.inl ⟨rfl, by intro w hSw; (try dsimp only at hSw); go_simp; try with_reducible rfl⟩
                case s6_u12v3 => assumption
                try simp only [Act.put, List.setIfInBounds_toArray, List.set_cons_zero, List.set_cons_succ]
                with_reducible refine takeI2 (i := 11) (v := ?sv_u13v3) (oi := ?s0_u13v3) (by simp only [List.getElem?_toArray, List.getElem?_cons_succ, List.getElem?_cons_zero]; exact rfl) ?s1_u13v3 ?s2_u13v3 ?s3_u13v3 ?s4_u13v3 ?s5_u13v3 ?s6_u13v3 ?s7_u13v3
                case s1_u13v3 | s2_u13v3 | s3_u13v3 => kernel_rfl
                case s4_u13v3 => exact fun _ _ _ h => h
                case s5_u13v3 => exact Or.inl ⟨rfl, by intro w hSw; (try dsimp only at hSw); go_simp; try with_reducible rfl⟩
                case s6_u13v3 => assumption
                try simp only [Act.put, List.setIfInBounds_toArray, List.set_cons_zero, List.set_cons_succ]
                with_reducible refine takeI2 (i := 12) (v := ?sv_u14v3) (oi := ?s0_u14v3) (by simp only [List.getElem?_toArray, List.getElem?_cons_succ, List.getElem?_cons_zero]; exact rfl) ?s1_u14v3 ?s2_u14v3 ?s3_u14v3 ?s4_u14v3 ?s5_u14v3 ?s6_u14v3 ?s7_u14v3
                case s1_u14v3 | s2_u14v3 | s3_u14v3 => kernel_rfl
                case s4_u14v3 => exact fun _ _ _ h => h
                case s5_u14v3 => exact Or.inl ⟨rfl, by intro w hSw; (try dsimp only at hSw); go_simp; try with_reducible rfl⟩
                case s6_u14v3 => assumption
                try simp only [Act.put, List.setIfInBounds_toArray, List.set_cons_zero, List.set_cons_succ]
                with_reducible refine takeI2 (i := 13) (v := ?sv_u15v3) (oi := ?s0_u15v3) (by simp only [List.getElem?_toArray, List.getElem?_cons_succ, List.getElem?_cons_zero]; exact rfl) ?s1_u15v3 ?s2_u15v3 ?s3_u15v3 ?s4_u15v3 ?s5_u15v3 ?s6_u15v3 ?s7_u15v3
                case s1_u15v3 | s2_u15v3 | s3_u15v3 => kernel_rfl
                case s4_u15v3 => exact fun _ _ _ h => h
                case s5_u15v3 => exact Or.inl ⟨rfl, by intro w hSw; (try dsimp only at hSw); go_simp; try with_reducible rfl⟩
                case s6_u15v3 => assumption
                try simp only [Act.put, List.setIfInBounds_toArray, List.set_cons_zero, List.set_cons_succ]
                with_reducible refine takeI2 (i := 14) (v := ?sv_u16v3) (oi := ?s0_u16v3) (by simp only [List.getElem?_toArray, List.getElem?_cons_succ, List.getElem?_cons_zero]; exact rfl) ?s1_u16v3 ?s2_u16v3 ?s3_u16v3 ?s4_u16v3 ?s5_u16v3 ?s6_u16v3 ?s7_u16v3
                case s1_u16v3 | s2_u16v3 | s3_u16v3 => kernel_rfl
                case s4_u16v3 => exact fun _ _ _ h => h
                case s5_u16v3 => exact Or.inl ⟨rfl, by intro w hSw; (try dsimp only at hSw); go_simp; try with_reducible rfl⟩
                case s6_u16v3 => assumption
                try simp only [Act.put, List.setIfInBounds_toArray, List.set_cons_zero, List.set_cons_succ]
                with_reducible refine takeI2 (i := 15) (v := ?sv_u17v3) (oi := ?s0_u17v3) (by simp only [List.getElem?_toArray, List.getElem?_cons_succ, List.getElem?_cons_zero]; exact rfl) ?s1_u17v3 ?s2_u17v3 ?s3_u17v3 ?s4_u17v3 ?s5_u17v3 ?s6_u17v3 ?s7_u17v3
                case s1_u17v3 | s2_u17v3 | s3_u17v3 => kernel_rfl
                case s4_u17v3 => exact fun _ _ _ h => h
                case s5_u17v3 => exact Or.inl ⟨rfl, by intro w hSw; (try dsimp only at hSw); go_simp; try with_reducible rfl⟩
                case s6_u17v3 => assumption
                try simp only [Act.put, List.setIfInBounds_toArray, List.set_cons_zero, List.set_cons_succ]
                with_reducible refine takeI2 (i := 16) (v := ?sv_u18v3) (oi := ?s0_u18v3) (by simp only [List.getElem?_toArray, List.getElem?_cons_succ, List.getElem?_cons_zero]; exact rfl) ?s1_u18v3 ?s2_u18v3 ?s3_u18v3 ?s4_u18v3 ?s5_u18v3 ?s6_u18v3 ?s7_u18v3
                case s1_u18v3 | s2_u18v3 | s3_u18v3 => kernel_rfl
                case s4_u18v3 => exact fun _ _ _ h => h
                case s5_u18v3 => exact Or.inl ⟨rfl, by intro w hSw; (try dsimp only at hSw); go_simp; try with_reducible rfl⟩
                case s6_u18v3 => assumption
                try simp only [Act.put, List.setIfInBounds_toArray, List.set_cons_zero, List.set_cons_succ]
                with_reducible refine takeI2 (i := 17) (v := ?sv_u19v3) (oi := ?s0_u19v3) (by simp only [List.getElem?_toArray, List.getElem?_cons_succ, List.getElem?_cons_zero]; exact rfl) ?s1_u19v3 ?s2_u19v3 ?s3_u19v3 ?s4_u19v3 ?s5_u19v3 ?s6_u19v3 ?s7_u19v3
                case s1_u19v3 | s2_u19v3 | s3_u19v3 => kernel_rfl
                case s4_u19v3 => exact fun _ _ _ h => h
                case s5_u19v3 => exact Or.inl ⟨rfl, by intro w hSw; (try dsimp only at hSw); go_simp; try with_reducible rfl⟩
                case s6_u19v3 => assumption
                try simp only [Act.put, List.setIfInBounds_toArray, List.set_cons_zero, List.set_cons_succ]
                with_reducible refine takeI2 (i := 18) (v := ?sv_u20v3) (oi := ?s0_u20v3) (by simp only [List.getElem?_toArray, List.getElem?_cons_succ, List.getElem?_cons_zero]; exact rfl) ?s1_u20v3 ?s2_u20v3 ?s3_u20v3 ?s4_u20v3 ?s5_u20v3 ?s6_u20v3 ?s7_u20v3
                case s1_u20v3 | s2_u20v3 | s3_u20v3 => kernel_rfl
                case s4_u20v3 => exact fun _ _ _ h => h
                case s5_u20v3 => exact Or.inl ⟨rfl, by intro w hSw; (try dsimp only at hSw); go_simp; try with_reducible rfl⟩
                case s6_u20v3 => assumption
                try simp only [Act.put, List.setIfInBounds_toArray, List.set_cons_zero, List.set_cons_succ]
                with_reducible refine takeI2 (i := 19) (v := ?sv_u21v3) (oi := ?s0_u21v3) (by simp only [List.getElem?_toArray, List.getElem?_cons_succ, List.getElem?_cons_zero]; exact rfl) ?s1_u21v3 ?s2_u21v3 ?s3_u21v3 ?s4_u21v3 ?s5_u21v3 ?s6_u21v3 ?s7_u21v3
                case s1_u21v3 | s2_u21v3 | s3_u21v3 => kernel_rfl
                case s4_u21v3 => exact fun _ _ _ h => h
                case s5_u21v3 => exact Or.inl ⟨rfl, by intro w hSw; (try dsimp only at hSw); go_simp; try with_reducible rfl⟩
                case s6_u21v3 => assumption
                try simp only [Act.put, List.setIfInBounds_toArray, List.set_cons_zero, List.set_cons_succ]
                with_reducible refine takeI2 (i := 20) (v := ?sv_u22v3) (oi := ?s0_u22v3) (by simp only [List.getElem?_toArray, List.getElem?_cons_succ, List.getElem?_cons_zero]; exact rfl) ?s1_u22v3 ?s2_u22v3 ?s3_u22v3 ?s4_u22v3 ?s5_u22v3 ?s6_u22v3 ?s7_u22v3
                case s1_u22v3 | s2_u22v3 | s3_u22v3 => kernel_rfl
                case s4_u22v3 => exact fun _ _ _ h => h
                case s5_u22v3 => exact Or.inl ⟨rfl, by intro w hSw; (try dsimp only at hSw); go_simp; try with_reducible rfl⟩
                case s6_u22v3 => assumption
                try simp only [Act.put, List.setIfInBounds_toArray, List.set_cons_zero, List.set_cons_succ]
                with_reducible refine takeI2 (i := 21) (v := ?sv_u23v3) (oi := ?s0_u23v3) (by simp only [List.getElem?_toArray, List.getElem?_cons_succ, List.getElem?_cons_zero]; exact rfl) ?s1_u23v3 ?s2_u23v3 ?s3_u23v3 ?s4_u23v3 ?s5_u23v3 ?s6_u23v3 ?s7_u23v3
                case s1_u23v3 | s2_u23v3 | s3_u23v3 => kernel_rfl
                case s4_u23v3 => exact fun _ _ _ h => h
                case s5_u23v3 => exact Or.inl ⟨rfl, by intro w hSw; (try dsimp only at hSw); go_simp; try with_reducible rfl⟩
                case s6_u23v3 => assumption
                try simp only [Act.put, List.setIfInBounds_toArray, List.set_cons_zero, List.set_cons_succ]
                with_reducible refine takeI2 (i := 22) (v := ?sv_u24v3) (oi := ?s0_u24v3) (by simp only [List.getElem?_toArray, List.getElem?_cons_succ, List.getElem?_cons_zero]; exact rfl) ?s1_u24v3 ?s2_u24v3 ?s3_u24v3 ?s4_u24v3 ?s5_u24v3 ?s6_u24v3 ?s7_u24v3
                case s1_u24v3 | s2_u24v3 | s3_u24v3 => kernel_rfl
                case s4_u24v3 => exact fun _ _ _ h => h
                case s5_u24v3 => exact Or.inl ⟨rfl, by intro w hSw; (try dsimp only at hSw); go_simp; try with_reducible rfl⟩
                case s6_u24v3 => assumption
                try simp only [Act.put, List.setIfInBounds_toArray, List.set_cons_zero, List.set_cons_succ]
                with_reducible refine takeI2 (i := 23) (v := ?sv_u25v3) (oi := ?s0_u25v3) (by simp only [List.getElem?_toArray, List.getElem?_cons_succ, List.getElem?_cons_zero]; exact rfl) ?s1_u25v3 ?s2_u25v3 ?s3_u25v3 ?s4_u25v3 ?s5_u25v3 ?s6_u25v3 ?s7_u25v3
                case s1_u25v3 | s2_u25v3 | s3_u25v3 => kernel_rfl
                case s4_u25v3 => exact fun _ _ _ h => h
                case s5_u25v3 => exact Or.inl ⟨rfl, by intro w hSw; (try dsimp only at hSw); go_simp; try with_reducible rfl⟩
                case s6_u25v3 => assumption
                try simp only [Act.put, List.setIfInBounds_toArray, List.set_cons_zero, List.set_cons_succ]
                with_reducible refine takeI2 (i := 24) (v := ?sv_u26v3) (oi := ?s0_u26v3) (by simp only [List.getElem?_toArray, List.getElem?_cons_succ, List.getElem?_cons_zero]; exact rfl) ?s1_u26v3 ?s2_u26v3 ?s3_u26v3 ?s4_u26v3 ?s5_u26v3 ?s6_u26v3 ?s7_u26v3
                case s1_u26v3 | s2_u26v3 | s3_u26v3 => kernel_rfl
                case s4_u26v3 => exact fun _ _ _ h => h
                case s5_u26v3 => exact Or.inl ⟨rfl, by intro w hSw; (try dsimp only at hSw); go_simp; try with_reducible rfl⟩
                case s6_u26v3 => assumption
                try simp only [Act.put, List.setIfInBounds_toArray, List.set_cons_zero, List.set_cons_succ]
                with_reducible refine takeI2 (i := 25) (v := ?sv_u27v3) (oi := ?s0_u27v3) (by simp only [List.getElem?_toArray, List.getElem?_cons_succ, List.getElem?_cons_zero]; exact rfl) ?s1_u27v3 ?s2_u27v3 ?s3_u27v3 ?s4_u27v3 ?s5_u27v3 ?s6_u27v3 ?s7_u27v3
                case s1_u27v3 | s2_u27v3 | s3_u27v3 => kernel_rfl
                case s4_u27v3 => exact fun _ _ _ h => h
                case s5_u27v3 => exact Or.inl ⟨rfl, by intro w hSw; (try dsimp only at hSw); go_simp; try with_reducible rfl⟩
                case s6_u27v3 => assumption
                try simp only [Act.put, List.setIfInBounds_toArray, List.set_cons_zero, List.set_cons_succ]
                with_reducible refine takeI2 (i := 26) (v := ?sv_u28v3) (oi := ?s0_u28v3) (by simp only [List.getElem?_toArray, List.getElem?_cons_succ, List.getElem?_cons_zero]; exact rfl) ?s1_u28v3 ?s2_u28v3 ?s3_u28v3 ?s4_u28v3 ?s5_u28v3 ?s6_u28v3 ?s7_u28v3
                case s1_u28v3 | s2_u28v3 | s3_u28v3 => kernel_rfl
                case s4_u28v3 => exact fun _ _ _ h => h
                case s5_u28v3 => exact Or.inl ⟨rfl, by intro w hSw; (try dsimp only at hSw); go_simp; try with_reducible rfl⟩
                case s6_u28v3 => assumption
                try simp only [Act.put, List.setIfInBounds_toArray, List.set_cons_zero, List.set_cons_succ]
                with_reducible refine takeI2 (i := 27) (v := ?sv_u29v3) (oi := ?s0_u29v3) (by simp only [List.getElem?_toArray, List.getElem?_cons_succ, List.getElem?_cons_zero]; exact rfl) ?s1_u29v3 ?s2_u29v3 ?s3_u29v3 ?s4_u29v3 ?s5_u29v3 ?s6_u29v3 ?s7_u29v3
                case s1_u29v3 | s2_u29v3 | s3_u29v3 => kernel_rfl
                case s4_u29v3 => exact fun _ _ _ h => h
                case s5_u29v3 => exact Or.inl ⟨rfl, by intro w hSw; (try dsimp only at hSw); go_simp; try with_reducible rfl⟩
                case s6_u29v3 => assumption
                try simp only [Act.put, List.setIfInBounds_toArray, List.set_cons_zero, List.set_cons_succ]
                with_reducible refine takeI2 (i := 28) (v := ?sv_u30v3) (oi := ?s0_u30v3) (by simp only [List.getElem?_toArray, List.getElem?_cons_succ, List.getElem?_cons_zero]; exact rfl) ?s1_u30v3 ?s2_u30v3 ?s3_u30v3 ?s4_u30v3 ?s5_u30v3 ?s6_u30v3 ?s7_u30v3
                case s1_u30v3 | s2_u30v3 | s3_u30v3 => kernel_rfl
                case s4_u30v3 => exact fun _ _ _ h => h
                case s5_u30v3 => exact Or.inl ⟨rfl, by intro w hSw; (try dsimp only at hSw); go_simp; try with_reducible rfl⟩
                case s6_u30v3 => assumption
                try simp only [Act.put, List.setIfInBounds_toArray, List.set_cons_zero, List.set_cons_succ]
                with_reducible refine takeI2 (i := 29) (v := ?sv_u31v3) (oi := ?s0_u31v3) (by simp only [List.getElem?_toArray, List.getElem?_cons_succ, List.getElem?_cons_zero]; exact rfl) ?s1_u31v3 ?s2_u31v3 ?s3_u31v3 ?s4_u31v3 ?s5_u31v3 ?s6_u31v3 ?s7_u31v3
                case s1_u31v3 | s2_u31v3 | s3_u31v3 => kernel_rfl
                case s4_u31v3 => exact fun _ _ _ h => h
                case s5_u31v3 => exact Or.inl ⟨rfl, by intro w hSw; (try dsimp only at hSw); go_simp; try with_reducible rfl⟩
                case s6_u31v3 => assumption
                try simp only [Act.put, List.setIfInBounds_toArray, List.set_cons_zero, List.set_cons_succ]
                with_reducible refine takeI2 (i := 30) (v := ?sv_u32v3) (oi := ?s0_u32v3) (by simp only [List.getElem?_toArray, List.getElem?_cons_succ, List.getElem?_cons_zero]; exact rfl) ?s1_u32v3 ?s2_u32v3 ?s3_u32v3 ?s4_u32v3 ?s5_u32v3 ?s6_u32v3 ?s7_u32v3
                case s1_u32v3 | s2_u32v3 | s3_u32v3 => kernel_rfl
                case s4_u32v3 => exact fun _ _ _ h => h
                case s5_u32v3 => exact Or.inl ⟨rfl, by intro w hSw; (try dsimp only at hSw); go_simp; try with_reducible rfl⟩
                case s6_u32v3 => assumption
                try simp only [Act.put, List.setIfInBounds_toArray, List.set_cons_zero, List.set_cons_succ]
                with_reducible refine takeI2 (i := 31) (v := undef) (oi := ?s0_u33v3) (by simp only [List.getElem?_toArray, List.getElem?_cons_succ, List.getElem?_cons_zero]; exact rfl) ?s1_u33v3 ?s2_u33v3 ?s3_u33v3 ?s4_u33v3 ?s5_u33v3 ?s6_u33v3 ?s7_u33v3
                case s1_u33v3 | s2_u33v3 | s3_u33v3 => kernel_rfl
                case s4_u33v3 => exact fun _ _ _ h => h
                case s5_u33v3 => exact Or.inr ⟨rfl, rfl⟩
                case s6_u33v3 => assumption
                try simp only [Act.put, List.setIfInBounds_toArray, List.set_cons_zero, List.set_cons_succ]
                with_reducible refine takeI2 (i := 32) (v := undef) (oi := ?s0_u34v3) (by simp only [List.getElem?_toArray, List.getElem?_cons_succ, List.getElem?_cons_zero]; exact rfl) ?s1_u34v3 ?s2_u34v3 ?s3_u34v3 ?s4_u34v3 ?s5_u34v3 ?s6_u34v3 ?s7_u34v3
                case s1_u34v3 | s2_u34v3 | s3_u34v3 => kernel_rfl
                case s4_u34v3 => exact fun _ _ _ h => h
                case s5_u34v3 => exact Or.inr ⟨rfl, rfl⟩
                case s6_u34v3 => assumption
                try simp only [Act.put, List.setIfInBounds_toArray, List.set_cons_zero, List.set_cons_succ]
                with_reducible refine takeI2 (i := 33) (v := undef) (oi := ?s0_u35v3) (by simp only [List.getElem?_toArray, List.getElem?_cons_succ, List.getElem?_cons_zero]; exact rfl) ?s1_u35v3 ?s2_u35v3 ?s3_u35v3 ?s4_u35v3 ?s5_u35v3 ?s6_u35v3 ?s7_u35v3
                case s1_u35v3 | s2_u35v3 | s3_u35v3 => kernel_rfl
                case s4_u35v3 => exact fun _ _ _ h => h
                case s5_u35v3 => exact Or.inr ⟨rfl, rfl⟩
                case s6_u35v3 => assumption
                try simp only [Act.put, List.setIfInBounds_toArray, List.set_cons_zero, List.set_cons_succ]
                with_reducible refine takeI2 (i := 34) (v := undef) (oi := ?s0_u36v3) (by simp only [List.getElem?_toArray, List.getElem?_cons_succ, List.getElem?_cons_zero]; exact rfl) ?s1_u36v3 ?s2_u36v3 ?s3_u36v3 ?s4_u36v3 ?s5_u36v3 ?s6_u36v3 ?s7_u36v3
                case s1_u36v3 | s2_u36v3 | s3_u36v3 => kernel_rfl
                case s4_u36v3 => exact fun _ _ _ h => h
                case s5_u36v3 => exact Or.inr ⟨rfl, rfl⟩
                case s6_u36v3 => assumption
                try simp only [Act.put, List.setIfInBounds_toArray, List.set_cons_zero, List.set_cons_succ]
                with_reducible refine takeI2 (i := 35) (v := undef) (oi := ?s0_u37v3) (by simp only [List.getElem?_toArray, List.getElem?_cons_succ, List.getElem?_cons_zero]; exact rfl) ?s1_u37v3 ?s2_u37v3 ?s3_u37v3 ?s4_u37v3 ?s5_u37v3 ?s6_u37v3 ?s7_u37v3
                case s1_u37v3 | s2_u37v3 | s3_u37v3 => kernel_rfl
                case s4_u37v3 => exact fun _ _ _ h => h
                case s5_u37v3 => exact Or.inr ⟨rfl, rfl⟩
                case s6_u37v3 => assumption
                try simp only [Act.put, List.setIfInBounds_toArray, List.set_cons_zero, List.set_cons_succ]
                with_reducible refine takeI2 (i := 36) (v := undef) (oi := ?s0_u38v3) (by simp only [List.getElem?_toArray, List.getElem?_cons_succ, List.getElem?_cons_zero]; exact rfl) ?s1_u38v3 ?s2_u38v3 ?s3_u38v3 ?s4_u38v3 ?s5_u38v3 ?s6_u38v3 ?s7_u38v3
                case s1_u38v3 | s2_u38v3 | s3_u38v3 => kernel_rfl
                case s4_u38v3 => exact fun _ _ _ h => h
                case s5_u38v3 => exact Or.inr ⟨rfl, rfl⟩
                case s6_u38v3 => assumption
                try simp only [Act.put, List.setIfInBounds_toArray, List.set_cons_zero, List.set_cons_succ]
                with_reducible refine takeI2 (i := 37) (v := undef) (oi := ?s0_u39v3) (by simp only [List.getElem?_toArray, List.getElem?_cons_succ, List.getElem?_cons_zero]; exact rfl) ?s1_u39v3 ?s2_u39v3 ?s3_u39v3 ?s4_u39v3 ?s5_u39v3 ?s6_u39v3 ?s7_u39v3
                case s1_u39v3 | s2_u39v3 | s3_u39v3 => kernel_rfl
                case s4_u39v3 => exact fun _ _ _ h => h
                case s5_u39v3 => exact Or.inr ⟨rfl, rfl⟩
                case s6_u39v3 => assumption
                try simp only [Act.put, List.setIfInBounds_toArray, List.set_cons_zero, List.set_cons_succ]
                with_reducible refine takeI2 (i := 38) (v := undef) (oi := ?s0_u40v3) (by simp only [List.getElem?_toArray, List.getElem?_cons_succ, List.getElem?_cons_zero]; exact rfl) ?s1_u40v3 ?s2_u40v3 ?s3_u40v3 ?s4_u40v3 ?s5_u40v3 ?s6_u40v3 ?s7_u40v3
                case s1_u40v3 | s2_u40v3 | s3_u40v3 => kernel_rfl
                case s4_u40v3 => exact fun _ _ _ h => h
                case s5_u40v3 => exact Or.inr ⟨rfl, rfl⟩
                case s6_u40v3 => assumption
                try simp only [Act.put, List.setIfInBounds_toArray, List.set_cons_zero, List.set_cons_succ]
                with_reducible refine takeI2 (i := 39) (v := undef) (oi := ?s0_u41v3) (by simp only [List.getElem?_toArray, List.getElem?_cons_succ, List.getElem?_cons_zero]; exact rfl) ?s1_u41v3 ?s2_u41v3 ?s3_u41v3 ?s4_u41v3 ?s5_u41v3 ?s6_u41v3 ?s7_u41v3
                case s1_u41v3 | s2_u41v3 | s3_u41v3 => kernel_rfl
                case s4_u41v3 => exact fun _ _ _ h => h
                case s5_u41v3 => exact Or.inr ⟨rfl, rfl⟩
                case s6_u41v3 => assumption
                try simp only [Act.put, List.setIfInBounds_toArray, List.set_cons_zero, List.set_cons_succ]
                with_reducible refine takeI2 (i := 40) (v := ?sv_u42v3) (oi := ?s0_u42v3) (by simp only [List.getElem?_toArray, List.getElem?_cons_succ, List.getElem?_cons_zero]; exact rfl) ?s1_u42v3 ?s2_u42v3 ?s3_u42v3 ?s4_u42v3 ?s5_u42v3 ?s6_u42v3 ?s7_u42v3
                case s1_u42v3 | s2_u42v3 | s3_u42v3 => kernel_rfl
                case s4_u42v3 => exact fun _ _ _ h => h
                case s5_u42v3 => exact Or.inl ⟨rfl, by intro w hSw; (try dsimp only at hSw); go_simp; try with_reducible rfl⟩
                case s6_u42v3 => assumption
                try simp only [Act.put, List.setIfInBounds_toArray, List.set_cons_zero, List.set_cons_succ]
                with_reducible refine takeI2 (i := 41) (v := ?sv_u43v3) (oi := ?s0_u43v3) (by simp only [List.getElem?_toArray, List.getElem?_cons_succ, List.getElem?_cons_zero]; exact rfl) ?s1_u43v3 ?s2_u43v3 ?s3_u43v3 ?s4_u43v3 ?s5_u43v3 ?s6_u43v3 ?s7_u43v3
                case s1_u43v3 | s2_u43v3 | s3_u43v3 => kernel_rfl
                case s4_u43v3 => exact fun _ _ _ h => h
                case s5_u43v3 => exact Or.inl ⟨rfl, by intro w hSw; (try dsimp only at hSw); go_simp; try with_reducible rfl⟩
                case s6_u43v3 => assumption
                try simp only [Act.put, List.setIfInBounds_toArray, List.set_cons_zero, List.set_cons_succ]
                with_reducible refine wpAnyH_done ?s1_u44v3 ?s2_u44v3 _
                case s1_u44v3 => kernel_rfl
                go_wp2_with (fail)
                exact ⟨⟨j + 1, by omega, by go_num, hD.next _⟩, by simp [intOf]; omega⟩
              · have h1 := he h
                subst h
                subst h1
                clear hm he
                go_wp2_with (fail)
                have q0 := cell_on (dr1 wr).below c0
                have q1 := cell_on (dr1 wr).below c1
                have q2 := cell_on (dr1 wr).below c2
                have q3 := cell_on (dr1 wr).below c3
                clear c0 c1 c2 c3
                with_reducible refine region_beg (n := 42) (S := (fun w => w.cell? ⟨bH, oH + j, none⟩ = some (.int .i64 x) ∧ w.cell? ⟨bH, oH + k, none⟩ = some (.int .i64 x) ∧ w.cell? ⟨bS, oS + j, none⟩ = some (.int .i64 sx) ∧ w.cell? ⟨bS, oS + k, none⟩ = some (.int .i64 sx))) ?b1_u45v3 ?b2_u45v3 ?b3_u45v3 (fun hHeld => ?b4_u45v3)
                case b1_u45v3 => kernel_rfl
                case b2_u45v3 => kernel_rfl
                case b3_u45v3 => exact ⟨q0, q1, q2, q3⟩
                with_reducible refine takeI2 (i := 0) (v := ?sv_u46v3) (oi := ?s0_u46v3) (by simp only [List.getElem?_toArray, List.getElem?_cons_succ, List.getElem?_cons_zero]; exact rfl) ?s1_u46v3 ?s2_u46v3 ?s3_u46v3 ?s4_u46v3 ?s5_u46v3 ?s6_u46v3 ?s7_u46v3
                case s1_u46v3 | s2_u46v3 | s3_u46v3 => kernel_rfl
                case s4_u46v3 => exact fun _ _ _ h => h
                case s5_u46v3 => exact Or.inl ⟨rfl, by intro w hSw; (try dsimp only at hSw); go_simp; try with_reducible rfl⟩
                case s6_u46v3 => assumption
                try simp only [Act.put, List.setIfInBounds_toArray, List.set_cons_zero, List.set_cons_succ]
                with_reducible refine takeI2 (i := 1) (v := ?sv_u47v3) (oi := ?s0_u47v3) (by simp only [List.getElem?_toArray, List.getElem?_cons_succ, List.getElem?_cons_zero]; exact rfl) ?s1_u47v3 ?s2_u47v3 ?s3_u47v3 ?s4_u47v3 ?s5_u47v3 ?s6_u47v3 ?s7_u47v3
                case s1_u47v3 | s2_u47v3 | s3_u47v3 => kernel_rfl
                case s4_u47v3 => exact fun _ _ _ h => h
                case s5_u47v3 => exact Or.inl ⟨rfl, by intro w hSw; (try dsimp only at hSw); go_simp; try with_reducible rfl⟩
                case s6_u47v3 => assumption
                try simp only [Act.put, List.setIfInBounds_toArray, List.set_cons_zero, List.set_cons_succ]
                with_reducible refine takeI2 (i := 2) (v := ?sv_u48v3) (oi := ?s0_u48v3) (by simp only [List.getElem?_toArray, List.getElem?_cons_succ, List.getElem?_cons_zero]; exact rfl) ?s1_u48v3 ?s2_u48v3 ?s3_u48v3 ?s4_u48v3 ?s5_u48v3 ?s6_u48v3 ?s7_u48v3
                case s1_u48v3 | s2_u48v3 | s3_u48v3 => kernel_rfl
                case s4_u48v3 => exact fun _ _ _ h => h
                case s5_u48v3 => exact Or.inl ⟨rfl, by intro w hSw; (try dsimp only at hSw); go_simp; try with_reducible rfl⟩
                case s6_u48v3 => assumption
                try simp only [Act.put, List.setIfInBounds_toArray, List.set_cons_zero, List.set_cons_succ]
                with_reducible refine takeI2 (i := 3) (v := ?sv_u49v3) (oi := ?s0_u49v3) (by simp only [List.getElem?_toArray, List.getElem?_cons_succ, List.getElem?_cons_zero]; exact rfl) ?s1_u49v3 ?s2_u49v3 ?s3_u49v3 ?s4_u49v3 ?s5_u49v3 ?s6_u49v3 ?s7_u49v3
                case s1_u49v3 | s2_u49v3 | s3_u49v3 => kernel_rfl
                case s4_u49v3 => exact fun _ _ _ h => h
                case s5_u49v3 => exact Or.inl ⟨rfl, by intro w hSw; (try dsimp only at hSw); go_simp; try with_reducible rfl⟩
                case s6_u49v3 => assumption
                try simp only [Act.put, List.setIfInBounds_toArray, List.set_cons_zero, List.set_cons_succ]
                with_reducible refine takeI2 (i := 4) (v := ?sv_u50v3) (oi := ?s0_u50v3) (by simp only [List.getElem?_toArray, List.getElem?_cons_succ, List.getElem?_cons_zero]; exact rfl) ?s1_u50v3 ?s2_u50v3 ?s3_u50v3 ?s4_u50v3 ?s5_u50v3 ?s6_u50v3 ?s7_u50v3
                case s1_u50v3 | s2_u50v3 | s3_u50v3 => kernel_rfl
                case s4_u50v3 => exact fun _ _ _ h => h
                case s5_u50v3 => exact Or.inl ⟨rfl, by intro w hSw; (try dsimp only at hSw); go_simp; try with_reducible rfl⟩
                case s6_u50v3 => assumption
                try simp only [Act.put, List.setIfInBounds_toArray, List.set_cons_zero, List.set_cons_succ]
                with_reducible refine takeI2 (i := 5) (v := ?sv_u51v3) (oi := ?s0_u51v3) (by simp only [List.getElem?_toArray, List.getElem?_cons_succ, List.getElem?_cons_zero]; exact rfl) ?s1_u51v3 ?s2_u51v3 ?s3_u51v3 ?s4_u51v3 ?s5_u51v3 ?s6_u51v3 ?s7_u51v3
                case s1_u51v3 | s2_u51v3 | s3_u51v3 => kernel_rfl
                case s4_u51v3 => exact fun _ _ _ h => h
                case s5_u51v3 => exact Or.inl ⟨rfl, by intro w hSw; (try dsimp only at hSw); go_simp; try with_reducible rfl⟩
                case s6_u51v3 => assumption
                try simp only [Act.put, List.setIfInBounds_toArray, List.set_cons_zero, List.set_cons_succ]
                with_reducible refine takeI2 (i := 6) (v := ?sv_u52v3) (oi := ?s0_u52v3) (by simp only [List.getElem?_toArray, List.getElem?_cons_succ, List.getElem?_cons_zero]; exact rfl) ?s1_u52v3 ?s2_u52v3 ?s3_u52v3 ?s4_u52v3 ?s5_u52v3 ?s6_u52v3 ?s7_u52v3
                case s1_u52v3 | s2_u52v3 | s3_u52v3 => kernel_rfl
                case s4_u52v3 => exact fun _ _ _ h => h
                case s5_u52v3 => exact Or.inl ⟨rfl, by intro w hSw; (try dsimp only at hSw); go_simp; try with_reducible rfl⟩
                case s6_u52v3 => assumption
                try simp only [Act.put, List.setIfInBounds_toArray, List.set_cons_zero, List.set_cons_succ]
                with_reducible refine takeI2 (i := 7) (v := ?sv_u53v3) (oi := ?s0_u53v3) (by simp only [List.getElem?_toArray, List.getElem?_cons_succ, List.getElem?_cons_zero]; exact rfl) ?s1_u53v3 ?s2_u53v3 ?s3_u53v3 ?s4_u53v3 ?s5_u53v3 ?s6_u53v3 ?s7_u53v3
                case s1_u53v3 | s2_u53v3 | s3_u53v3 => kernel_rfl
                case s4_u53v3 => exact fun _ _ _ h => h
                case s5_u53v3 => exact Or.inl ⟨rfl, by intro w hSw; (try dsimp only at hSw); go_simp; try with_reducible rfl⟩
                case s6_u53v3 => assumption
                try simp only [Act.put, List.setIfInBounds_toArray, List.set_cons_zero, List.set_cons_succ]
                with_reducible refine takeI2 (i := 8) (v := ?sv_u54v3) (oi := ?s0_u54v3) (by simp only [List.getElem?_toArray, List.getElem?_cons_succ, List.getElem?_cons_zero]; exact rfl) ?s1_u54v3 ?s2_u54v3 ?s3_u54v3 ?s4_u54v3 ?s5_u54v3 ?s6_u54v3 ?s7_u54v3
                case s1_u54v3 | s2_u54v3 | s3_u54v3 => kernel_rfl
                case s4_u54v3 => exact fun _ _ _ h => h
                case s5_u54v3 => exact Or.inl ⟨rfl, by intro w hSw; (try dsimp only at hSw); go_simp; try with_reducible rfl⟩
                case s6_u54v3 => assumption
                try simp only [Act.put, List.setIfInBounds_toArray, List.set_cons_zero, List.set_cons_succ]
                with_reducible refine takeI2 (i := 9) (v := ?sv_u55v3) (oi := ?s0_u55v3) (by simp only [List.getElem?_toArray, List.getElem?_cons_succ, List.getElem?_cons_zero]; exact rfl) ?s1_u55v3 ?s2_u55v3 ?s3_u55v3 ?s4_u55v3 ?s5_u55v3 ?s6_u55v3 ?s7_u55v3
                case s1_u55v3 | s2_u55v3 | s3_u55v3 => kernel_rfl
                case s4_u55v3 => exact fun _ _ _ h => h
                case s5_u55v3 => exact Or.inl ⟨rfl, by intro w hSw; (try dsimp only at hSw); go_simp; try with_reducible rfl⟩
                case s6_u55v3 => assumption
                try simp only [Act.put, List.setIfInBounds_toArray, List.set_cons_zero, List.set_cons_succ]
                with_reducible refine takeI2 (i := 10) (v := undef) (oi := ?s0_u56v3) (by simp only [List.getElem?_toArray, List.getElem?_cons_succ, List.getElem?_cons_zero]; exact rfl) ?s1_u56v3 ?s2_u56v3 ?s3_u56v3 ?s4_u56v3 ?s5_u56v3 ?s6_u56v3 ?s7_u56v3
                case s1_u56v3 | s2_u56v3 | s3_u56v3 => kernel_rfl
                case s4_u56v3 => exact fun _ _ _ h => h
                case s5_u56v3 => exact Or.inr ⟨rfl, rfl⟩
                case s6_u56v3 => assumption
                try simp only [Act.put, List.setIfInBounds_toArray, List.set_cons_zero, List.set_cons_succ]
                with_reducible refine takeI2 (i := 11) (v := undef) (oi := ?s0_u57v3) (by simp only [List.getElem?_toArray, List.getElem?_cons_succ, List.getElem?_cons_zero]; exact rfl) ?s1_u57v3 ?s2_u57v3 ?s3_u57v3 ?s4_u57v3 ?s5_u57v3 ?s6_u57v3 ?s7_u57v3
                case s1_u57v3 | s2_u57v3 | s3_u57v3 => kernel_rfl
                case s4_u57v3 => exact fun _ _ _ h => h
                case s5_u57v3 => exact Or.inr ⟨rfl, rfl⟩
                case s6_u57v3 => assumption
                try simp only [Act.put, List.setIfInBounds_toArray, List.set_cons_zero, List.set_cons_succ]
                with_reducible refine takeI2 (i := 12) (v := undef) (oi := ?s0_u58v3) (by simp only [List.getElem?_toArray, List.getElem?_cons_succ, List.getElem?_cons_zero]; exact rfl) ?s1_u58v3 ?s2_u58v3 ?s3_u58v3 ?s4_u58v3 ?s5_u58v3 ?s6_u58v3 ?s7_u58v3
                case s1_u58v3 | s2_u58v3 | s3_u58v3 => kernel_rfl
                case s4_u58v3 => exact fun _ _ _ h => h
                case s5_u58v3 => exact Or.inr ⟨rfl, rfl⟩
                case s6_u58v3 => assumption
                try simp only [Act.put, List.setIfInBounds_toArray, List.set_cons_zero, List.set_cons_succ]
                with_reducible refine takeI2 (i := 13) (v := undef) (oi := ?s0_u59v3) (by simp only [List.getElem?_toArray, List.getElem?_cons_succ, List.getElem?_cons_zero]; exact rfl) ?s1_u59v3 ?s2_u59v3 ?s3_u59v3 ?s4_u59v3 ?s5_u59v3 ?s6_u59v3 ?s7_u59v3
                case s1_u59v3 | s2_u59v3 | s3_u59v3 => kernel_rfl
                case s4_u59v3 => exact fun _ _ _ h => h
                case s5_u59v3 => exact Or.inr ⟨rfl, rfl⟩
                case s6_u59v3 => assumption
                try simp only [Act.put, List.setIfInBounds_toArray, List.set_cons_zero, List.set_cons_succ]
                with_reducible refine takeI2 (i := 14) (v := undef) (oi := ?s0_u60v3) (by simp only [List.getElem?_toArray, List.getElem?_cons_succ, List.getElem?_cons_zero]; exact rfl) ?s1_u60v3 ?s2_u60v3 ?s3_u60v3 ?s4_u60v3 ?s5_u60v3 ?s6_u60v3 ?s7_u60v3
                case s1_u60v3 | s2_u60v3 | s3_u60v3 => kernel_rfl
                case s4_u60v3 => exact fun _ _ _ h => h
                case s5_u60v3 => exact Or.inr ⟨rfl, rfl⟩
                case s6_u60v3 => assumption
                try simp only [Act.put, List.setIfInBounds_toArray, List.set_cons_zero, List.set_cons_succ]
                with_reducible refine takeI2 (i := 15) (v := undef) (oi := ?s0_u61v3) (by simp only [List.getElem?_toArray, List.getElem?_cons_succ, List.getElem?_cons_zero]; exact rfl) ?s1_u61v3 ?s2_u61v3 ?s3_u61v3 ?s4_u61v3 ?s5_u61v3 ?s6_u61v3 ?s7_u61v3
                case s1_u61v3 | s2_u61v3 | s3_u61v3 => kernel_rfl
                case s4_u61v3 => exact fun _ _ _ h => h
                case s5_u61v3 => exact Or.inr ⟨rfl, rfl⟩
                case s6_u61v3 => assumption
                try simp only [Act.put, List.setIfInBounds_toArray, List.set_cons_zero, List.set_cons_succ]
                with_reducible refine takeI2 (i := 16) (v := undef) (oi := ?s0_u62v3) (by simp only [List.getElem?_toArray, List.getElem?_cons_succ, List.getElem?_cons_zero]; exact rfl) ?s1_u62v3 ?s2_u62v3 ?s3_u62v3 ?s4_u62v3 ?s5_u62v3 ?s6_u62v3 ?s7_u62v3
                case s1_u62v3 | s2_u62v3 | s3_u62v3 => kernel_rfl
                case s4_u62v3 => exact fun _ _ _ h => h
                case s5_u62v3 => exact Or.inr ⟨rfl, rfl⟩
                case s6_u62v3 => assumption
                try simp only [Act.put, List.setIfInBounds_toArray, List.set_cons_zero, List.set_cons_succ]
                with_reducible refine takeI2 (i := 17) (v := undef) (oi := ?s0_u63v3) (by simp only [List.getElem?_toArray, List.getElem?_cons_succ, List.getElem?_cons_zero]; exact rfl) ?s1_u63v3 ?s2_u63v3 ?s3_u63v3 ?s4_u63v3 ?s5_u63v3 ?s6_u63v3 ?s7_u63v3
                case s1_u63v3 | s2_u63v3 | s3_u63v3 => kernel_rfl
                case s4_u63v3 => exact fun _ _ _ h => h
                case s5_u63v3 => exact Or.inr ⟨rfl, rfl⟩
                case s6_u63v3 => assumption
                try simp only [Act.put, List.setIfInBounds_toArray, List.set_cons_zero, List.set_cons_succ]
                with_reducible refine takeI2 (i := 18) (v := undef) (oi := ?s0_u64v3) (by simp only [List.getElem?_toArray, List.getElem?_cons_succ, List.getElem?_cons_zero]; exact rfl) ?s1_u64v3 ?s2_u64v3 ?s3_u64v3 ?s4_u64v3 ?s5_u64v3 ?s6_u64v3 ?s7_u64v3
                case s1_u64v3 | s2_u64v3 | s3_u64v3 => kernel_rfl
                case s4_u64v3 => exact fun _ _ _ h => h
                case s5_u64v3 => exact Or.inr ⟨rfl, rfl⟩
                case s6_u64v3 => assumption
                try simp only [Act.put, List.setIfInBounds_toArray, List.set_cons_zero, List.set_cons_succ]
                with_reducible refine takeI2 (i := 19) (v := ?sv_u65v3) (oi := ?s0_u65v3) (by simp only [List.getElem?_toArray, List.getElem?_cons_succ, List.getElem?_cons_zero]; exact rfl) ?s1_u65v3 ?s2_u65v3 ?s3_u65v3 ?s4_u65v3 ?s5_u65v3 ?s6_u65v3 ?s7_u65v3
                case s1_u65v3 | s2_u65v3 | s3_u65v3 => kernel_rfl
                case s4_u65v3 => exact fun _ _ _ h => h
                case s5_u65v3 => exact Or.inl ⟨rfl, by intro w hSw; (try dsimp only at hSw); go_simp; try with_reducible rfl⟩
                case s6_u65v3 => assumption
                try simp only [Act.put, List.setIfInBounds_toArray, List.set_cons_zero, List.set_cons_succ]
                with_reducible refine takeI2 (i := 20) (v := ?sv_u66v3) (oi := ?s0_u66v3) (by simp only [List.getElem?_toArray, List.getElem?_cons_succ, List.getElem?_cons_zero]; exact rfl) ?s1_u66v3 ?s2_u66v3 ?s3_u66v3 ?s4_u66v3 ?s5_u66v3 ?s6_u66v3 ?s7_u66v3
                case s1_u66v3 | s2_u66v3 | s3_u66v3 => kernel_rfl
                case s4_u66v3 => exact fun _ _ _ h => h
                case s5_u66v3 => exact Or.inl ⟨rfl, by intro w hSw; (try dsimp only at hSw); go_simp; try with_reducible rfl⟩
                case s6_u66v3 => assumption
                try simp only [Act.put, List.setIfInBounds_toArray, List.set_cons_zero, List.set_cons_succ]
                with_reducible refine takeI2 (i := 21) (v := ?sv_u67v3) (oi := ?s0_u67v3) (by simp only [List.getElem?_toArray, List.getElem?_cons_succ, List.getElem?_cons_zero]; exact rfl) ?s1_u67v3 ?s2_u67v3 ?s3_u67v3 ?s4_u67v3 ?s5_u67v3 ?s6_u67v3 ?s7_u67v3
                case s1_u67v3 | s2_u67v3 | s3_u67v3 => kernel_rfl
                case s4_u67v3 => exact fun _ _ _ h => h
                case s5_u67v3 => exact Or.inl ⟨rfl, by intro w hSw; (try dsimp only at hSw); go_simp; try with_reducible rfl⟩
                case s6_u67v3 => assumption
                try simp only [Act.put, List.setIfInBounds_toArray, List.set_cons_zero, List.set_cons_succ]
                with_reducible refine takeI2 (i := 22) (v := ?sv_u68v3) (oi := ?s0_u68v3) (by simp only [List.getElem?_toArray, List.getElem?_cons_succ, List.getElem?_cons_zero]; exact rfl) ?s1_u68v3 ?s2_u68v3 ?s3_u68v3 ?s4_u68v3 ?s5_u68v3 ?s6_u68v3 ?s7_u68v3
                case s1_u68v3 | s2_u68v3 | s3_u68v3 => kernel_rfl
                case s4_u68v3 => exact fun _ _ _ h => h
                case s5_u68v3 => exact Or.inl ⟨rfl, by intro w hSw; (try dsimp only at hSw); go_simp; try with_reducible rfl⟩
                case s6_u68v3 => assumption
                try simp only [Act.put, List.setIfInBounds_toArray, List.set_cons_zero, List.set_cons_succ]
                with_reducible refine takeI2 (i := 23) (v := ?sv_u69v3) (oi := ?s0_u69v3) (by simp only [List.getElem?_toArray, List.getElem?_cons_succ, List.getElem?_cons_zero]; exact rfl) ?s1_u69v3 ?s2_u69v3 ?s3_u69v3 ?s4_u69v3 ?s5_u69v3 ?s6_u69v3 ?s7_u69v3
                case s1_u69v3 | s2_u69v3 | s3_u69v3 => kernel_rfl
                case s4_u69v3 => exact fun _ _ _ h => h
                case s5_u69v3 => exact Or.inl ⟨rfl, by intro w hSw; (try dsimp only at hSw); go_simp; try with_reducible rfl⟩
                case s6_u69v3 => assumption
                try simp only [Act.put, List.setIfInBounds_toArray, List.set_cons_zero, List.set_cons_succ]
                with_reducible refine takeI2 (i := 24) (v := ?sv_u70v3) (oi := ?s0_u70v3) (by simp only [List.getElem?_toArray, List.getElem?_cons_succ, List.getElem?_cons_zero]; exact rfl) ?s1_u70v3 ?s2_u70v3 ?s3_u70v3 ?s4_u70v3 ?s5_u70v3 ?s6_u70v3 ?s7_u70v3
                case s1_u70v3 | s2_u70v3 | s3_u70v3 => kernel_rfl
                case s4_u70v3 => exact fun _ _ _ h => h
                case s5_u70v3 => exact Or.inl ⟨rfl, by intro w hSw; (try dsimp only at hSw); go_simp; try with_reducible rfl⟩
                case s6_u70v3 => assumption
                try simp only [Act.put, List.setIfInBounds_toArray, List.set_cons_zero, List.set_cons_succ]
                with_reducible refine takeI2 (i := 25) (v := ?sv_u71v3) (oi := ?s0_u71v3) (by simp only [List.getElem?_toArray, List.getElem?_cons_succ, List.getElem?_cons_zero]; exact rfl) ?s1_u71v3 ?s2_u71v3 ?s3_u71v3 ?s4_u71v3 ?s5_u71v3 ?s6_u71v3 ?s7_u71v3
                case s1_u71v3 | s2_u71v3 | s3_u71v3 => kernel_rfl
                case s4_u71v3 => exact fun _ _ _ h => h
                case s5_u71v3 => exact Or.inl ⟨rfl, by intro w hSw; (try dsimp only at hSw); go_simp; try with_reducible rfl⟩
                case s6_u71v3 => assumption
                try simp only [Act.put, List.setIfInBounds_toArray, List.set_cons_zero, List.set_cons_succ]
                with_reducible refine takeI2 (i := 26) (v := ?sv_u72v3) (oi := ?s0_u72v3) (by simp only [List.getElem?_toArray, List.getElem?_cons_succ, List.getElem?_cons_zero]; exact rfl) ?s1_u72v3 ?s2_u72v3 ?s3_u72v3 ?s4_u72v3 ?s5_u72v3 ?s6_u72v3 ?s7_u72v3
                case s1_u72v3 | s2_u72v3 | s3_u72v3 => kernel_rfl
                case s4_u72v3 => exact fun _ _ _ h => h
                case s5_u72v3 => exact Or.inl ⟨rfl, by intro w hSw; (try dsimp only at hSw); go_simp; try with_reducible rfl⟩
                case s6_u72v3 => assumption
                try simp only [Act.put, List.setIfInBounds_toArray, List.set_cons_zero, List.set_cons_succ]
                with_reducible refine takeI2 (i := 27) (v := ?sv_u73v3) (oi := ?s0_u73v3) (by simp only [List.getElem?_toArray, List.getElem?_cons_succ, List.getElem?_cons_zero]; exact rfl) ?s1_u73v3 ?s2_u73v3 ?s3_u73v3 ?s4_u73v3 ?s5_u73v3 ?s6_u73v3 ?s7_u73v3
                case s1_u73v3 | s2_u73v3 | s3_u73v3 => kernel_rfl
                case s4_u73v3 => exact fun _ _ _ h => h
                case s5_u73v3 => exact Or.inl ⟨rfl, by intro w hSw; (try dsimp only at hSw); go_simp; try with_reducible rfl⟩
                case s6_u73v3 => assumption
                try simp only [Act.put, List.setIfInBounds_toArray, List.set_cons_zero, List.set_cons_succ]
                with_reducible refine takeI2 (i := 28) (v := ?sv_u74v3) (oi := ?s0_u74v3) (by simp only [List.getElem?_toArray, List.getElem?_cons_succ, List.getElem?_cons_zero]; exact rfl) ?s1_u74v3 ?s2_u74v3 ?s3_u74v3 ?s4_u74v3 ?s5_u74v3 ?s6_u74v3 ?s7_u74v3
                case s1_u74v3 | s2_u74v3 | s3_u74v3 => kernel_rfl
                case s4_u74v3 => exact fun _ _ _ h => h
                case s5_u74v3 => exact Or.inl ⟨rfl, by intro w hSw; (try dsimp only at hSw); go_simp; try with_reducible rfl⟩
                case s6_u74v3 => assumption
                try simp only [Act.put, List.setIfInBounds_toArray, List.set_cons_zero, List.set_cons_succ]
                with_reducible refine takeI2 (i := 29) (v := ?sv_u75v3) (oi := ?s0_u75v3) (by simp only [List.getElem?_toArray, List.getElem?_cons_succ, List.getElem?_cons_zero]; exact rfl) ?s1_u75v3 ?s2_u75v3 ?s3_u75v3 ?s4_u75v3 ?s5_u75v3 ?s6_u75v3 ?s7_u75v3
                case s1_u75v3 | s2_u75v3 | s3_u75v3 => kernel_rfl
                case s4_u75v3 => exact fun _ _ _ h => h
                case s5_u75v3 => exact Or.inl ⟨rfl, by intro w hSw; (try dsimp only at hSw); go_simp; try with_reducible rfl⟩
                case s6_u75v3 => assumption
                try simp only [Act.put, List.setIfInBounds_toArray, List.set_cons_zero, List.set_cons_succ]
                with_reducible refine takeI2 (i := 30) (v := ?sv_u76v3) (oi := ?s0_u76v3) (by simp only [List.getElem?_toArray, List.getElem?_cons_succ, List.getElem?_cons_zero]; exact rfl) ?s1_u76v3 ?s2_u76v3 ?s3_u76v3 ?s4_u76v3 ?s5_u76v3 ?s6_u76v3 ?s7_u76v3
                case s1_u76v3 | s2_u76v3 | s3_u76v3 => kernel_rfl
                case s4_u76v3 => exact fun _ _ _ h => h
                case s5_u76v3 => exact Or.inl ⟨rfl, by intro w hSw; (try dsimp only at hSw); go_simp; try with_reducible rfl⟩
                case s6_u76v3 => assumption
                try simp only [Act.put, List.setIfInBounds_toArray, List.set_cons_zero, List.set_cons_succ]
                with_reducible refine takeI2 (i := 31) (v := ?sv_u77v3) (oi := ?s0_u77v3) (by simp only [List.getElem?_toArray, List.getElem?_cons_succ, List.getElem?_cons_zero]; exact rfl) ?s1_u77v3 ?s2_u77v3 ?s3_u77v3 ?s4_u77v3 ?s5_u77v3 ?s6_u77v3 ?s7_u77v3
                case s1_u77v3 | s2_u77v3 | s3_u77v3 => kernel_rfl
                case s4_u77v3 => exact fun _ _ _ h => h
                case s5_u77v3 => exact Or.inl ⟨rfl, by intro w hSw; (try dsimp only at hSw); go_simp; try with_reducible rfl⟩
                case s6_u77v3 => assumption
                try simp only [Act.put, List.setIfInBounds_toArray, List.set_cons_zero, List.set_cons_succ]
                with_reducible refine takeI2 (i := 32) (v := ?sv_u78v3) (oi := ?s0_u78v3) (by simp only [List.getElem?_toArray, List.getElem?_cons_succ, List.getElem?_cons_zero]; exact rfl) ?s1_u78v3 ?s2_u78v3 ?s3_u78v3 ?s4_u78v3 ?s5_u78v3 ?s6_u78v3 ?s7_u78v3
                case s1_u78v3 | s2_u78v3 | s3_u78v3 => kernel_rfl
                case s4_u78v3 => exact fun _ _ _ h => h
                case s5_u78v3 => exact Or.inl ⟨rfl, by intro w hSw; (try dsimp only at hSw); go_simp; try with_reducible rfl⟩
                case s6_u78v3 => assumption
                try simp only [Act.put, List.setIfInBounds_toArray, List.set_cons_zero, List.set_cons_succ]
                with_reducible refine takeI2 (i := 33) (v := ?sv_u79v3) (oi := ?s0_u79v3) (by simp only [List.getElem?_toArray, List.getElem?_cons_succ, List.getElem?_cons_zero]; exact rfl) ?s1_u79v3 ?s2_u79v3 ?s3_u79v3 ?s4_u79v3 ?s5_u79v3 ?s6_u79v3 ?s7_u79v3
                case s1_u79v3 | s2_u79v3 | s3_u79v3 => kernel_rfl
                case s4_u79v3 => exact fun _ _ _ h => h
                case s5_u79v3 => exact Or.inl ⟨rfl, by intro w hSw; (try dsimp only at hSw); go_simp; try with_reducible rfl⟩
                case s6_u79v3 => assumption
                try simp only [Act.put, List.setIfInBounds_toArray, List.set_cons_zero, List.set_cons_succ]
                with_reducible refine takeI2 (i := 34) (v := ?sv_u80v3) (oi := ?s0_u80v3) (by simp only [List.getElem?_toArray, List.getElem?_cons_succ, List.getElem?_cons_zero]; exact rfl) ?s1_u80v3 ?s2_u80v3 ?s3_u80v3 ?s4_u80v3 ?s5_u80v3 ?s6_u80v3 ?s7_u80v3
                case s1_u80v3 | s2_u80v3 | s3_u80v3 => kernel_rfl
                case s4_u80v3 => exact fun _ _ _ h => h
                case s5_u80v3 => exact Or.inl ⟨rfl, by intro w hSw; (try dsimp only at hSw); go_simp; try with_reducible rfl⟩
                case s6_u80v3 => assumption
                try simp only [Act.put, List.setIfInBounds_toArray, List.set_cons_zero, List.set_cons_succ]
                with_reducible refine takeI2 (i := 35) (v := ?sv_u81v3) (oi := ?s0_u81v3) (by simp only [List.getElem?_toArray, List.getElem?_cons_succ, List.getElem?_cons_zero]; exact rfl) ?s1_u81v3 ?s2_u81v3 ?s3_u81v3 ?s4_u81v3 ?s5_u81v3 ?s6_u81v3 ?s7_u81v3
                case s1_u81v3 | s2_u81v3 | s3_u81v3 => kernel_rfl
                case s4_u81v3 => exact fun _ _ _ h => h
                case s5_u81v3 => exact Or.inl ⟨rfl, by intro w hSw; (try dsimp only at hSw); go_simp; try with_reducible rfl⟩
                case s6_u81v3 => assumption
                try simp only [Act.put, List.setIfInBounds_toArray, List.set_cons_zero, List.set_cons_succ]
                with_reducible refine takeI2 (i := 36) (v := ?sv_u82v3) (oi := ?s0_u82v3) (by simp only [List.getElem?_toArray, List.getElem?_cons_succ, List.getElem?_cons_zero]; exact rfl) ?s1_u82v3 ?s2_u82v3 ?s3_u82v3 ?s4_u82v3 ?s5_u82v3 ?s6_u82v3 ?s7_u82v3
                case s1_u82v3 | s2_u82v3 | s3_u82v3 => kernel_rfl
                case s4_u82v3 => exact fun _ _ _ h => h
                case s5_u82v3 => exact Or.inl ⟨rfl, by intro w hSw; (try dsimp only at hSw); go_simp; try with_reducible rfl⟩
                case s6_u82v3 => assumption
                try simp only [Act.put, List.setIfInBounds_toArray, List.set_cons_zero, List.set_cons_succ]
                with_reducible refine takeI2 (i := 37) (v := ?sv_u83v3) (oi := ?s0_u83v3) (by simp only [List.getElem?_toArray, List.getElem?_cons_succ, List.getElem?_cons_zero]; exact rfl) ?s1_u83v3 ?s2_u83v3 ?s3_u83v3 ?s4_u83v3 ?s5_u83v3 ?s6_u83v3 ?s7_u83v3
                case s1_u83v3 | s2_u83v3 | s3_u83v3 => kernel_rfl
                case s4_u83v3 => exact fun _ _ _ h => h
                case s5_u83v3 => exact Or.inl ⟨rfl, by intro w hSw; (try dsimp only at hSw); go_simp; try with_reducible rfl⟩
                case s6_u83v3 => assumption
                try simp only [Act.put, List.setIfInBounds_toArray, List.set_cons_zero, List.set_cons_succ]
                with_reducible refine takeI2 (i := 38) (v := ?sv_u84v3) (oi := ?s0_u84v3) (by simp only [List.getElem?_toArray, List.getElem?_cons_succ, List.getElem?_cons_zero]; exact rfl) ?s1_u84v3 ?s2_u84v3 ?s3_u84v3 ?s4_u84v3 ?s5_u84v3 ?s6_u84v3 ?s7_u84v3
                case s1_u84v3 | s2_u84v3 | s3_u84v3 => kernel_rfl
                case s4_u84v3 => exact fun _ _ _ h => h
                case s5_u84v3 => exact Or.inl ⟨rfl, by intro w hSw; (try dsimp only at hSw); go_simp; try with_reducible rfl⟩
                case s6_u84v3 => assumption
                try simp only [Act.put, List.setIfInBounds_toArray, List.set_cons_zero, List.set_cons_succ]
                with_reducible refine takeI2 (i := 39) (v := ?sv_u85v3) (oi := ?s0_u85v3) (by simp only [List.getElem?_toArray, List.getElem?_cons_succ, List.getElem?_cons_zero]; exact rfl) ?s1_u85v3 ?s2_u85v3 ?s3_u85v3 ?s4_u85v3 ?s5_u85v3 ?s6_u85v3 ?s7_u85v3
                case s1_u85v3 | s2_u85v3 | s3_u85v3 => kernel_rfl
                case s4_u85v3 => exact fun _ _ _ h => h
                case s5_u85v3 => exact Or.inl ⟨rfl, by intro w hSw; (try dsimp only at hSw); go_simp; try with_reducible rfl⟩
                case s6_u85v3 => assumption
                try simp only [Act.put, List.setIfInBounds_toArray, List.set_cons_zero, List.set_cons_succ]
                with_reducible refine takeI2 (i := 40) (v := ?sv_u86v3) (oi := ?s0_u86v3) (by simp only [List.getElem?_toArray, List.getElem?_cons_succ, List.getElem?_cons_zero]; exact rfl) ?s1_u86v3 ?s2_u86v3 ?s3_u86v3 ?s4_u86v3 ?s5_u86v3 ?s6_u86v3 ?s7_u86v3
                case s1_u86v3 | s2_u86v3 | s3_u86v3 => kernel_rfl
                case s4_u86v3 => exact fun _ _ _ h => h
                case s5_u86v3 => exact Or.inl ⟨rfl, by intro w hSw; (try dsimp only at hSw); go_simp; try with_reducible rfl⟩
                case s6_u86v3 => assumption
                try simp only [Act.put, List.setIfInBounds_toArray, List.set_cons_zero, List.set_cons_succ]
                with_reducible refine takeI2 (i := 41) (v := ?sv_u87v3) (oi := ?s0_u87v3) (by simp only [List.getElem?_toArray, List.getElem?_cons_succ, List.getElem?_cons_zero]; exact rfl) ?s1_u87v3 ?s2_u87v3 ?s3_u87v3 ?s4_u87v3 ?s5_u87v3 ?s6_u87v3 ?s7_u87v3
                case s1_u87v3 | s2_u87v3 | s3_u87v3 => kernel_rfl
                case s4_u87v3 => exact fun _ _ _ h => h
                case s5_u87v3 => exact Or.inl ⟨rfl, by intro w hSw; (try dsimp only at hSw); go_simp; try with_reducible rfl⟩
                case s6_u87v3 => assumption
                try simp only [Act.put, List.setIfInBounds_toArray, List.set_cons_zero, List.set_cons_succ]
                with_reducible refine wpAnyH_done ?s1_u88v3 ?s2_u88v3 _
                case s1_u88v3 => kernel_rfl
                go_wp2_with (fail)
                exact ⟨⟨j + 1, by omega, by go_num, hD.next _⟩, by simp [intOf]; omega⟩
              · have h1 : decide (x < y) = false := decide_eq_false (by omega)
                have h2 : (x == y) = false := beq_eq_false_iff_ne.2 (by omega)
                have h3 : ¬ x = y := by omega
                clear hm he
                go_wp2_with (fail)
                have q0 := cell_on (dr1 wr).below c0
                have q1 := cell_on (dr1 wr).below c1
                have q2 := cell_on (dr1 wr).below c2
                have q3 := cell_on (dr1 wr).below c3
                clear c0 c1 c2 c3
                with_reducible refine region_beg (n := 42) (S := (fun w => w.cell? ⟨bH, oH + j, none⟩ = some (.int .i64 x) ∧ w.cell? ⟨bH, oH + k, none⟩ = some (.int .i64 y) ∧ w.cell? ⟨bS, oS + j, none⟩ = some (.int .i64 sx) ∧ w.cell? ⟨bS, oS + k, none⟩ = some (.int .i64 sy))) ?b1_u89v3 ?b2_u89v3 ?b3_u89v3 (fun hHeld => ?b4_u89v3)
                case b1_u89v3 => kernel_rfl
                case b2_u89v3 => kernel_rfl
                case b3_u89v3 => exact ⟨q0, q1, q2, q3⟩
                with_reducible refine takeI2 (i := 0) (v := ?sv_u90v3) (oi := ?s0_u90v3) (by simp only [List.getElem?_toArray, List.getElem?_cons_succ, List.getElem?_cons_zero]; exact rfl) ?s1_u90v3 ?s2_u90v3 ?s3_u90v3 ?s4_u90v3 ?s5_u90v3 ?s6_u90v3 ?s7_u90v3
                case s1_u90v3 | s2_u90v3 | s3_u90v3 => kernel_rfl
                case s4_u90v3 => exact fun _ _ _ h => h
                case s5_u90v3 => exact Or.inl ⟨rfl, by intro w hSw; (try dsimp only at hSw); go_simp; try with_reducible rfl⟩
                case s6_u90v3 => assumption
                try simp only [Act.put, List.setIfInBounds_toArray, List.set_cons_zero, List.set_cons_succ]
                with_reducible refine takeI2 (i := 1) (v := ?sv_u91v3) (oi := ?s0_u91v3) (by simp only [List.getElem?_toArray, List.getElem?_cons_succ, List.getElem?_cons_zero]; exact rfl) ?s1_u91v3 ?s2_u91v3 ?s3_u91v3 ?s4_u91v3 ?s5_u91v3 ?s6_u91v3 ?s7_u91v3
                case s1_u91v3 | s2_u91v3 | s3_u91v3 => kernel_rfl
                case s4_u91v3 => exact fun _ _ _ h => h
                case s5_u91v3 => exact Or.inl ⟨rfl, by intro w hSw; (try dsimp only at hSw); go_simp; try with_reducible rfl⟩
                case s6_u91v3 => assumption
                try simp only [Act.put, List.setIfInBounds_toArray, List.set_cons_zero, List.set_cons_succ]
                with_reducible refine takeI2 (i := 2) (v := ?sv_u92v3) (oi := ?s0_u92v3) (by simp only [List.getElem?_toArray, List.getElem?_cons_succ, List.getElem?_cons_zero]; exact rfl) ?s1_u92v3 ?s2_u92v3 ?s3_u92v3 ?s4_u92v3 ?s5_u92v3 ?s6_u92v3 ?s7_u92v3
                case s1_u92v3 | s2_u92v3 | s3_u92v3 => kernel_rfl
                case s4_u92v3 => exact fun _ _ _ h => h
                case s5_u92v3 => exact Or.inl ⟨rfl, by intro w hSw; (try dsimp only at hSw); go_simp; try with_reducible rfl⟩
                case s6_u92v3 => assumption
                try simp only [Act.put, List.setIfInBounds_toArray, List.set_cons_zero, List.set_cons_succ]
                with_reducible refine takeI2 (i := 3) (v := ?sv_u93v3) (oi := ?s0_u93v3) (by simp only [List.getElem?_toArray, List.getElem?_cons_succ, List.getElem?_cons_zero]; exact rfl) ?s1_u93v3 ?s2_u93v3 ?s3_u93v3 ?s4_u93v3 ?s5_u93v3 ?s6_u93v3 ?s7_u93v3
                case s1_u93v3 | s2_u93v3 | s3_u93v3 => kernel_rfl
                case s4_u93v3 => exact fun _ _ _ h => h
                case s5_u93v3 => exact Or.inl ⟨rfl, by intro w hSw; (try dsimp only at hSw); go_simp; try with_reducible rfl⟩
                case s6_u93v3 => assumption
                try simp only [Act.put, List.setIfInBounds_toArray, List.set_cons_zero, List.set_cons_succ]
                with_reducible refine takeI2 (i := 4) (v := ?sv_u94v3) (oi := ?s0_u94v3) (by simp only [List.getElem?_toArray, List.getElem?_cons_succ, List.getElem?_cons_zero]; exact rfl) ?s1_u94v3 ?s2_u94v3 ?s3_u94v3 ?s4_u94v3 ?s5_u94v3 ?s6_u94v3 ?s7_u94v3
                case s1_u94v3 | s2_u94v3 | s3_u94v3 => kernel_rfl
                case s4_u94v3 => exact fun _ _ _ h => h
                case s5_u94v3 => exact Or.inl ⟨rfl, by intro w hSw; (try dsimp only at hSw); go_simp; try with_reducible rfl⟩
                case s6_u94v3 => assumption
                try simp only [Act.put, List.setIfInBounds_toArray, List.set_cons_zero, List.set_cons_succ]
                with_reducible refine takeI2 (i := 5) (v := ?sv_u95v3) (oi := ?s0_u95v3) (by simp only [List.getElem?_toArray, List.getElem?_cons_succ, List.getElem?_cons_zero]; exact rfl) ?s1_u95v3 ?s2_u95v3 ?s3_u95v3 ?s4_u95v3 ?s5_u95v3 ?s6_u95v3 ?s7_u95v3
                case s1_u95v3 | s2_u95v3 | s3_u95v3 => kernel_rfl
                case s4_u95v3 => exact fun _ _ _ h => h
                case s5_u95v3 => exact Or.inl ⟨rfl, by intro w hSw; (try dsimp only at hSw); go_simp; try with_reducible rfl⟩
                case s6_u95v3 => assumption
                try simp only [Act.put, List.setIfInBounds_toArray, List.set_cons_zero, List.set_cons_succ]
                with_reducible refine takeI2 (i := 6) (v := ?sv_u96v3) (oi := ?s0_u96v3) (by simp only [List.getElem?_toArray, List.getElem?_cons_succ, List.getElem?_cons_zero]; exact rfl) ?s1_u96v3 ?s2_u96v3 ?s3_u96v3 ?s4_u96v3 ?s5_u96v3 ?s6_u96v3 ?s7_u96v3
                case s1_u96v3 | s2_u96v3 | s3_u96v3 => kernel_rfl
                case s4_u96v3 => exact fun _ _ _ h => h
                case s5_u96v3 => exact Or.inl ⟨rfl, by intro w hSw; (try dsimp only at hSw); go_simp; try with_reducible rfl⟩
                case s6_u96v3 => assumption
                try simp only [Act.put, List.setIfInBounds_toArray, List.set_cons_zero, List.set_cons_succ]
                with_reducible refine takeI2 (i := 7) (v := ?sv_u97v3) (oi := ?s0_u97v3) (by simp only [List.getElem?_toArray, List.getElem?_cons_succ, List.getElem?_cons_zero]; exact rfl) ?s1_u97v3 ?s2_u97v3 ?s3_u97v3 ?s4_u97v3 ?s5_u97v3 ?s6_u97v3 ?s7_u97v3
                case s1_u97v3 | s2_u97v3 | s3_u97v3 => kernel_rfl
                case s4_u97v3 => exact fun _ _ _ h => h
                case s5_u97v3 => exact Or.inl ⟨rfl, by intro w hSw; (try dsimp only at hSw); go_simp; try with_reducible rfl⟩
                case s6_u97v3 => assumption
                try simp only [Act.put, List.setIfInBounds_toArray, List.set_cons_zero, List.set_cons_succ]
                with_reducible refine takeI2 (i := 8) (v := ?sv_u98v3) (oi := ?s0_u98v3) (by simp only [List.getElem?_toArray, List.getElem?_cons_succ, List.getElem?_cons_zero]; exact rfl) ?s1_u98v3 ?s2_u98v3 ?s3_u98v3 ?s4_u98v3 ?s5_u98v3 ?s6_u98v3 ?s7_u98v3
                case s1_u98v3 | s2_u98v3 | s3_u98v3 => kernel_rfl
                case s4_u98v3 => exact fun _ _ _ h => h
                case s5_u98v3 => exact Or.inl ⟨rfl, by intro w hSw; (try dsimp only at hSw); go_simp; try with_reducible rfl⟩
                case s6_u98v3 => assumption
                try simp only [Act.put, List.setIfInBounds_toArray, List.set_cons_zero, List.set_cons_succ]
                with_reducible refine takeI2 (i := 9) (v := ?sv_u99v3) (oi := ?s0_u99v3) (by simp only [List.getElem?_toArray, List.getElem?_cons_succ, List.getElem?_cons_zero]; exact rfl) ?s1_u99v3 ?s2_u99v3 ?s3_u99v3 ?s4_u99v3 ?s5_u99v3 ?s6_u99v3 ?s7_u99v3
                case s1_u99v3 | s2_u99v3 | s3_u99v3 => kernel_rfl
                case s4_u99v3 => exact fun _ _ _ h => h
                case s5_u99v3 => exact Or.inl ⟨rfl, by intro w hSw; (try dsimp only at hSw); go_simp; try with_reducible rfl⟩
                case s6_u99v3 => assumption
                try simp only [Act.put, List.setIfInBounds_toArray, List.set_cons_zero, List.set_cons_succ]
                with_reducible refine takeI2 (i := 10) (v := undef) (oi := ?s0_u100v3) (by simp only [List.getElem?_toArray, List.getElem?_cons_succ, List.getElem?_cons_zero]; exact rfl) ?s1_u100v3 ?s2_u100v3 ?s3_u100v3 ?s4_u100v3 ?s5_u100v3 ?s6_u100v3 ?s7_u100v3
                case s1_u100v3 | s2_u100v3 | s3_u100v3 => kernel_rfl
                case s4_u100v3 => exact fun _ _ _ h => h
                case s5_u100v3 => exact Or.inr ⟨rfl, rfl⟩
                case s6_u100v3 => assumption
                try simp only [Act.put, List.setIfInBounds_toArray, List.set_cons_zero, List.set_cons_succ]
                with_reducible refine takeI2 (i := 11) (v := undef) (oi := ?s0_u101v3) (by simp only [List.getElem?_toArray, List.getElem?_cons_succ, List.getElem?_cons_zero]; exact rfl) ?s1_u101v3 ?s2_u101v3 ?s3_u101v3 ?s4_u101v3 ?s5_u101v3 ?s6_u101v3 ?s7_u101v3
                case s1_u101v3 | s2_u101v3 | s3_u101v3 => kernel_rfl
                case s4_u101v3 => exact fun _ _ _ h => h
                case s5_u101v3 => exact Or.inr ⟨rfl, rfl⟩
                case s6_u101v3 => assumption
                try simp only [Act.put, List.setIfInBounds_toArray, List.set_cons_zero, List.set_cons_succ]
                with_reducible refine takeI2 (i := 12) (v := undef) (oi := ?s0_u102v3) (by simp only [List.getElem?_toArray, List.getElem?_cons_succ, List.getElem?_cons_zero]; exact rfl) ?s1_u102v3 ?s2_u102v3 ?s3_u102v3 ?s4_u102v3 ?s5_u102v3 ?s6_u102v3 ?s7_u102v3
                case s1_u102v3 | s2_u102v3 | s3_u102v3 => kernel_rfl
                case s4_u102v3 => exact fun _ _ _ h => h
                case s5_u102v3 => exact Or.inr ⟨rfl, rfl⟩
                case s6_u102v3 => assumption
                try simp only [Act.put, List.setIfInBounds_toArray, List.set_cons_zero, List.set_cons_succ]
                with_reducible refine takeI2 (i := 13) (v := undef) (oi := ?s0_u103v3) (by simp only [List.getElem?_toArray, List.getElem?_cons_succ, List.getElem?_cons_zero]; exact rfl) ?s1_u103v3 ?s2_u103v3 ?s3_u103v3 ?s4_u103v3 ?s5_u103v3 ?s6_u103v3 ?s7_u103v3
                case s1_u103v3 | s2_u103v3 | s3_u103v3 => kernel_rfl
                case s4_u103v3 => exact fun _ _ _ h => h
                case s5_u103v3 => exact Or.inr ⟨rfl, rfl⟩
                case s6_u103v3 => assumption
                try simp only [Act.put, List.setIfInBounds_toArray, List.set_cons_zero, List.set_cons_succ]
                with_reducible refine takeI2 (i := 14) (v := undef) (oi := ?s0_u104v3) (by simp only [List.getElem?_toArray, List.getElem?_cons_succ, List.getElem?_cons_zero]; exact rfl) ?s1_u104v3 ?s2_u104v3 ?s3_u104v3 ?s4_u104v3 ?s5_u104v3 ?s6_u104v3 ?s7_u104v3
                case s1_u104v3 | s2_u104v3 | s3_u104v3 => kernel_rfl
                case s4_u104v3 => exact fun _ _ _ h => h
                case s5_u104v3 => exact Or.inr ⟨rfl, rfl⟩
                case s6_u104v3 => assumption
                try simp only [Act.put, List.setIfInBounds_toArray, List.set_cons_zero, List.set_cons_succ]
                with_reducible refine takeI2 (i := 15) (v := undef) (oi := ?s0_u105v3) (by simp only [List.getElem?_toArray, List.getElem?_cons_succ, List.getElem?_cons_zero]; exact rfl) ?s1_u105v3 ?s2_u105v3 ?s3_u105v3 ?s4_u105v3 ?s5_u105v3 ?s6_u105v3 ?s7_u105v3
                case s1_u105v3 | s2_u105v3 | s3_u105v3 => kernel_rfl
                case s4_u105v3 => exact fun _ _ _ h => h
                case s5_u105v3 => exact Or.inr ⟨rfl, rfl⟩
                case s6_u105v3 => assumption
                try simp only [Act.put, List.setIfInBounds_toArray, List.set_cons_zero, List.set_cons_succ]
                with_reducible refine takeI2 (i := 16) (v := undef) (oi := ?s0_u106v3) (by simp only [List.getElem?_toArray, List.getElem?_cons_succ, List.getElem?_cons_zero]; exact rfl) ?s1_u106v3 ?s2_u106v3 ?s3_u106v3 ?s4_u106v3 ?s5_u106v3 ?s6_u106v3 ?s7_u106v3
                case s1_u106v3 | s2_u106v3 | s3_u106v3 => kernel_rfl
                case s4_u106v3 => exact fun _ _ _ h => h
                case s5_u106v3 => exact Or.inr ⟨rfl, rfl⟩
                case s6_u106v3 => assumption
                try simp only [Act.put, List.setIfInBounds_toArray, List.set_cons_zero, List.set_cons_succ]
                with_reducible refine takeI2 (i := 17) (v := undef) (oi := ?s0_u107v3) (by simp only [List.getElem?_toArray, List.getElem?_cons_succ, List.getElem?_cons_zero]; exact rfl) ?s1_u107v3 ?s2_u107v3 ?s3_u107v3 ?s4_u107v3 ?s5_u107v3 ?s6_u107v3 ?s7_u107v3
                case s1_u107v3 | s2_u107v3 | s3_u107v3 => kernel_rfl
                case s4_u107v3 => exact fun _ _ _ h => h
                case s5_u107v3 => exact Or.inr ⟨rfl, rfl⟩
                case s6_u107v3 => assumption
                try simp only [Act.put, List.setIfInBounds_toArray, List.set_cons_zero, List.set_cons_succ]
                with_reducible refine takeI2 (i := 18) (v := undef) (oi := ?s0_u108v3) (by simp only [List.getElem?_toArray, List.getElem?_cons_succ, List.getElem?_cons_zero]; exact rfl) ?s1_u108v3 ?s2_u108v3 ?s3_u108v3 ?s4_u108v3 ?s5_u108v3 ?s6_u108v3 ?s7_u108v3
                case s1_u108v3 | s2_u108v3 | s3_u108v3 => kernel_rfl
                case s4_u108v3 => exact fun _ _ _ h => h
                case s5_u108v3 => exact Or.inr ⟨rfl, rfl⟩
                case s6_u108v3 => assumption
                try simp only [Act.put, List.setIfInBounds_toArray, List.set_cons_zero, List.set_cons_succ]
                with_reducible refine takeI2 (i := 19) (v := ?sv_u109v3) (oi := ?s0_u109v3) (by simp only [List.getElem?_toArray, List.getElem?_cons_succ, List.getElem?_cons_zero]; exact rfl) ?s1_u109v3 ?s2_u109v3 ?s3_u109v3 ?s4_u109v3 ?s5_u109v3 ?s6_u109v3 ?s7_u109v3
                case s1_u109v3 | s2_u109v3 | s3_u109v3 => kernel_rfl
                case s4_u109v3 => exact fun _ _ _ h => h
                case s5_u109v3 => exact Or.inl ⟨rfl, by intro w hSw; (try dsimp only at hSw); go_simp; try with_reducible rfl⟩
                case s6_u109v3 => assumption
                try simp only [Act.put, List.setIfInBounds_toArray, List.set_cons_zero, List.set_cons_succ]
                with_reducible refine takeI2 (i := 20) (v := ?sv_u110v3) (oi := ?s0_u110v3) (by simp only [List.getElem?_toArray, List.getElem?_cons_succ, List.getElem?_cons_zero]; exact rfl) ?s1_u110v3 ?s2_u110v3 ?s3_u110v3 ?s4_u110v3 ?s5_u110v3 ?s6_u110v3 ?s7_u110v3
                case s1_u110v3 | s2_u110v3 | s3_u110v3 => kernel_rfl
                case s4_u110v3 => exact fun _ _ _ h => h
                case s5_u110v3 => exact Or.inl ⟨rfl, by intro w hSw; (try dsimp only at hSw); go_simp; try with_reducible rfl⟩
                case s6_u110v3 => assumption
                try simp only [Act.put, List.setIfInBounds_toArray, List.set_cons_zero, List.set_cons_succ]
                with_reducible refine takeI2 (i := 21) (v := ?sv_u111v3) (oi := ?s0_u111v3) (by simp only [List.getElem?_toArray, List.getElem?_cons_succ, List.getElem?_cons_zero]; exact rfl) ?s1_u111v3 ?s2_u111v3 ?s3_u111v3 ?s4_u111v3 ?s5_u111v3 ?s6_u111v3 ?s7_u111v3
                case s1_u111v3 | s2_u111v3 | s3_u111v3 => kernel_rfl
                case s4_u111v3 => exact fun _ _ _ h => h
                case s5_u111v3 => exact Or.inl ⟨rfl, by intro w hSw; (try dsimp only at hSw); go_simp; try with_reducible rfl⟩
                case s6_u111v3 => assumption
                try simp only [Act.put, List.setIfInBounds_toArray, List.set_cons_zero, List.set_cons_succ]
                with_reducible refine takeI2 (i := 22) (v := ?sv_u112v3) (oi := ?s0_u112v3) (by simp only [List.getElem?_toArray, List.getElem?_cons_succ, List.getElem?_cons_zero]; exact rfl) ?s1_u112v3 ?s2_u112v3 ?s3_u112v3 ?s4_u112v3 ?s5_u112v3 ?s6_u112v3 ?s7_u112v3
                case s1_u112v3 | s2_u112v3 | s3_u112v3 => kernel_rfl
                case s4_u112v3 => exact fun _ _ _ h => h
                case s5_u112v3 => exact Or.inl ⟨rfl, by intro w hSw; (try dsimp only at hSw); go_simp; try with_reducible rfl⟩
                case s6_u112v3 => assumption
                try simp only [Act.put, List.setIfInBounds_toArray, List.set_cons_zero, List.set_cons_succ]
                with_reducible refine takeI2 (i := 23) (v := ?sv_u113v3) (oi := ?s0_u113v3) (by simp only [List.getElem?_toArray, List.getElem?_cons_succ, List.getElem?_cons_zero]; exact rfl) ?s1_u113v3 ?s2_u113v3 ?s3_u113v3 ?s4_u113v3 ?s5_u113v3 ?s6_u113v3 ?s7_u113v3
                case s1_u113v3 | s2_u113v3 | s3_u113v3 => kernel_rfl
                case s4_u113v3 => exact fun _ _ _ h => h
                case s5_u113v3 => exact Or.inl ⟨rfl, by intro w hSw; (try dsimp only at hSw); go_simp; try with_reducible rfl⟩
                case s6_u113v3 => assumption
                try simp only [Act.put, List.setIfInBounds_toArray, List.set_cons_zero, List.set_cons_succ]
                with_reducible refine takeI2 (i := 24) (v := ?sv_u114v3) (oi := ?s0_u114v3) (by simp only [List.getElem?_toArray, List.getElem?_cons_succ, List.getElem?_cons_zero]; exact rfl) ?s1_u114v3 ?s2_u114v3 ?s3_u114v3 ?s4_u114v3 ?s5_u114v3 ?s6_u114v3 ?s7_u114v3
                case s1_u114v3 | s2_u114v3 | s3_u114v3 => kernel_rfl
                case s4_u114v3 => exact fun _ _ _ h => h
                case s5_u114v3 => exact Or.inl ⟨rfl, by intro w hSw; (try dsimp only at hSw); go_simp; try with_reducible rfl⟩
                case s6_u114v3 => assumption
                try simp only [Act.put, List.setIfInBounds_toArray, List.set_cons_zero, List.set_cons_succ]
                with_reducible refine takeI2 (i := 25) (v := ?sv_u115v3) (oi := ?s0_u115v3) (by simp only [List.getElem?_toArray, List.getElem?_cons_succ, List.getElem?_cons_zero]; exact rfl) ?s1_u115v3 ?s2_u115v3 ?s3_u115v3 ?s4_u115v3 ?s5_u115v3 ?s6_u115v3 ?s7_u115v3
                case s1_u115v3 | s2_u115v3 | s3_u115v3 => kernel_rfl
                case s4_u115v3 => exact fun _ _ _ h => h
                case s5_u115v3 => exact Or.inl ⟨rfl, by intro w hSw; (try dsimp only at hSw); go_simp; try with_reducible rfl⟩
                case s6_u115v3 => assumption
                try simp only [Act.put, List.setIfInBounds_toArray, List.set_cons_zero, List.set_cons_succ]
                with_reducible refine takeI2 (i := 26) (v := ?sv_u116v3) (oi := ?s0_u116v3) (by simp only [List.getElem?_toArray, List.getElem?_cons_succ, List.getElem?_cons_zero]; exact rfl) ?s1_u116v3 ?s2_u116v3 ?s3_u116v3 ?s4_u116v3 ?s5_u116v3 ?s6_u116v3 ?s7_u116v3
                case s1_u116v3 | s2_u116v3 | s3_u116v3 => kernel_rfl
                case s4_u116v3 => exact fun _ _ _ h => h
                case s5_u116v3 => exact Or.inl ⟨rfl, by intro w hSw; (try dsimp only at hSw); go_simp; try with_reducible rfl⟩
                case s6_u116v3 => assumption
                try simp only [Act.put, List.setIfInBounds_toArray, List.set_cons_zero, List.set_cons_succ]
                with_reducible refine takeI2 (i := 27) (v := ?sv_u117v3) (oi := ?s0_u117v3) (by simp only [List.getElem?_toArray, List.getElem?_cons_succ, List.getElem?_cons_zero]; exact rfl) ?s1_u117v3 ?s2_u117v3 ?s3_u117v3 ?s4_u117v3 ?s5_u117v3 ?s6_u117v3 ?s7_u117v3
                case s1_u117v3 | s2_u117v3 | s3_u117v3 => kernel_rfl
                case s4_u117v3 => exact fun _ _ _ h => h
                case s5_u117v3 => exact Or.inl ⟨rfl, by intro w hSw; (try dsimp only at hSw); go_simp; try with_reducible rfl⟩
                case s6_u117v3 => assumption
                try simp only [Act.put, List.setIfInBounds_toArray, List.set_cons_zero, List.set_cons_succ]
                with_reducible refine takeI2 (i := 28) (v := ?sv_u118v3) (oi := ?s0_u118v3) (by simp only [List.getElem?_toArray, List.getElem?_cons_succ, List.getElem?_cons_zero]; exact rfl) ?s1_u118v3 ?s2_u118v3 ?s3_u118v3 ?s4_u118v3 ?s5_u118v3 ?s6_u118v3 ?s7_u118v3
                case s1_u118v3 | s2_u118v3 | s3_u118v3 => kernel_rfl
                case s4_u118v3 => exact fun _ _ _ h => h
                case s5_u118v3 => exact Or.inl ⟨rfl, by intro w hSw; (try dsimp only at hSw); go_simp; try with_reducible rfl⟩
                case s6_u118v3 => assumption
                try simp only [Act.put, List.setIfInBounds_toArray, List.set_cons_zero, List.set_cons_succ]
                with_reducible refine takeI2 (i := 29) (v := ?sv_u119v3) (oi := ?s0_u119v3) (by simp only [List.getElem?_toArray, List.getElem?_cons_succ, List.getElem?_cons_zero]; exact rfl) ?s1_u119v3 ?s2_u119v3 ?s3_u119v3 ?s4_u119v3 ?s5_u119v3 ?s6_u119v3 ?s7_u119v3
                case s1_u119v3 | s2_u119v3 | s3_u119v3 => kernel_rfl
                case s4_u119v3 => exact fun _ _ _ h => h
                case s5_u119v3 => exact Or.inl ⟨rfl, by intro w hSw; (try dsimp only at hSw); go_simp; try with_reducible rfl⟩
                case s6_u119v3 => assumption
                try simp only [Act.put, List.setIfInBounds_toArray, List.set_cons_zero, List.set_cons_succ]
                with_reducible refine takeI2 (i := 30) (v := ?sv_u120v3) (oi := ?s0_u120v3) (by simp only [List.getElem?_toArray, List.getElem?_cons_succ, List.getElem?_cons_zero]; exact rfl) ?s1_u120v3 ?s2_u120v3 ?s3_u120v3 ?s4_u120v3 ?s5_u120v3 ?s6_u120v3 ?s7_u120v3
                case s1_u120v3 | s2_u120v3 | s3_u120v3 => kernel_rfl
                case s4_u120v3 => exact fun _ _ _ h => h
                case s5_u120v3 => exact Or.inl ⟨rfl, by intro w hSw; (try dsimp only at hSw); go_simp; try with_reducible rfl⟩
                case s6_u120v3 => assumption
                try simp only [Act.put, List.setIfInBounds_toArray, List.set_cons_zero, List.set_cons_succ]
                with_reducible refine takeI2 (i := 31) (v := undef) (oi := ?s0_u121v3) (by simp only [List.getElem?_toArray, List.getElem?_cons_succ, List.getElem?_cons_zero]; exact rfl) ?s1_u121v3 ?s2_u121v3 ?s3_u121v3 ?s4_u121v3 ?s5_u121v3 ?s6_u121v3 ?s7_u121v3
                case s1_u121v3 | s2_u121v3 | s3_u121v3 => kernel_rfl
                case s4_u121v3 => exact fun _ _ _ h => h
                case s5_u121v3 => exact Or.inr ⟨rfl, rfl⟩
                case s6_u121v3 => assumption
                try simp only [Act.put, List.setIfInBounds_toArray, List.set_cons_zero, List.set_cons_succ]
                with_reducible refine takeI2 (i := 32) (v := undef) (oi := ?s0_u122v3) (by simp only [List.getElem?_toArray, List.getElem?_cons_succ, List.getElem?_cons_zero]; exact rfl) ?s1_u122v3 ?s2_u122v3 ?s3_u122v3 ?s4_u122v3 ?s5_u122v3 ?s6_u122v3 ?s7_u122v3
                case s1_u122v3 | s2_u122v3 | s3_u122v3 => kernel_rfl
                case s4_u122v3 => exact fun _ _ _ h => h
                case s5_u122v3 => exact Or.inr ⟨rfl, rfl⟩
                case s6_u122v3 => assumption
                try simp only [Act.put, List.setIfInBounds_toArray, List.set_cons_zero, List.set_cons_succ]
                with_reducible refine takeI2 (i := 33) (v := undef) (oi := ?s0_u123v3) (by simp only [List.getElem?_toArray, List.getElem?_cons_succ, List.getElem?_cons_zero]; exact rfl) ?s1_u123v3 ?s2_u123v3 ?s3_u123v3 ?s4_u123v3 ?s5_u123v3 ?s6_u123v3 ?s7_u123v3
                case s1_u123v3 | s2_u123v3 | s3_u123v3 => kernel_rfl
                case s4_u123v3 => exact fun _ _ _ h => h
                case s5_u123v3 => exact Or.inr ⟨rfl, rfl⟩
                case s6_u123v3 => assumption
                try simp only [Act.put, List.setIfInBounds_toArray, List.set_cons_zero, List.set_cons_succ]
                with_reducible refine takeI2 (i := 34) (v := undef) (oi := ?s0_u124v3) (by simp only [List.getElem?_toArray, List.getElem?_cons_succ, List.getElem?_cons_zero]; exact rfl) ?s1_u124v3 ?s2_u124v3 ?s3_u124v3 ?s4_u124v3 ?s5_u124v3 ?s6_u124v3 ?s7_u124v3
                case s1_u124v3 | s2_u124v3 | s3_u124v3 => kernel_rfl
                case s4_u124v3 => exact fun _ _ _ h => h
                case s5_u124v3 => exact Or.inr ⟨rfl, rfl⟩
                case s6_u124v3 => assumption
                try simp only [Act.put, List.setIfInBounds_toArray, List.set_cons_zero, List.set_cons_succ]
                with_reducible refine takeI2 (i := 35) (v := undef) (oi := ?s0_u125v3) (by simp only [List.getElem?_toArray, List.getElem?_cons_succ, List.getElem?_cons_zero]; exact rfl) ?s1_u125v3 ?s2_u125v3 ?s3_u125v3 ?s4_u125v3 ?s5_u125v3 ?s6_u125v3 ?s7_u125v3
                case s1_u125v3 | s2_u125v3 | s3_u125v3 => kernel_rfl
                case s4_u125v3 => exact fun _ _ _ h => h
                case s5_u125v3 => exact Or.inr ⟨rfl, rfl⟩
                case s6_u125v3 => assumption
                try simp only [Act.put, List.setIfInBounds_toArray, List.set_cons_zero, List.set_cons_succ]
                with_reducible refine takeI2 (i := 36) (v := undef) (oi := ?s0_u126v3) (by simp only [List.getElem?_toArray, List.getElem?_cons_succ, List.getElem?_cons_zero]; exact rfl) ?s1_u126v3 ?s2_u126v3 ?s3_u126v3 ?s4_u126v3 ?s5_u126v3 ?s6_u126v3 ?s7_u126v3
                case s1_u126v3 | s2_u126v3 | s3_u126v3 => kernel_rfl
                case s4_u126v3 => exact fun _ _ _ h => h
                case s5_u126v3 => exact Or.inr ⟨rfl, rfl⟩
                case s6_u126v3 => assumption
                try simp only [Act.put, List.setIfInBounds_toArray, List.set_cons_zero, List.set_cons_succ]
                with_reducible refine takeI2 (i := 37) (v := undef) (oi := ?s0_u127v3) (by simp only [List.getElem?_toArray, List.getElem?_cons_succ, List.getElem?_cons_zero]; exact rfl) ?s1_u127v3 ?s2_u127v3 ?s3_u127v3 ?s4_u127v3 ?s5_u127v3 ?s6_u127v3 ?s7_u127v3
                case s1_u127v3 | s2_u127v3 | s3_u127v3 => kernel_rfl
                case s4_u127v3 => exact fun _ _ _ h => h
                case s5_u127v3 => exact Or.inr ⟨rfl, rfl⟩
                case s6_u127v3 => assumption
                try simp only [Act.put, List.setIfInBounds_toArray, List.set_cons_zero, List.set_cons_succ]
                with_reducible refine takeI2 (i := 38) (v := undef) (oi := ?s0_u128v3) (by simp only [List.getElem?_toArray, List.getElem?_cons_succ, List.getElem?_cons_zero]; exact rfl) ?s1_u128v3 ?s2_u128v3 ?s3_u128v3 ?s4_u128v3 ?s5_u128v3 ?s6_u128v3 ?s7_u128v3
                case s1_u128v3 | s2_u128v3 | s3_u128v3 => kernel_rfl
                case s4_u128v3 => exact fun _ _ _ h => h
                case s5_u128v3 => exact Or.inr ⟨rfl, rfl⟩
                case s6_u128v3 => assumption
                try simp only [Act.put, List.setIfInBounds_toArray, List.set_cons_zero, List.set_cons_succ]
                with_reducible refine takeI2 (i := 39) (v := undef) (oi := ?s0_u129v3) (by simp only [List.getElem?_toArray, List.getElem?_cons_succ, List.getElem?_cons_zero]; exact rfl) ?s1_u129v3 ?s2_u129v3 ?s3_u129v3 ?s4_u129v3 ?s5_u129v3 ?s6_u129v3 ?s7_u129v3
                case s1_u129v3 | s2_u129v3 | s3_u129v3 => kernel_rfl
                case s4_u129v3 => exact fun _ _ _ h => h
                case s5_u129v3 => exact Or.inr ⟨rfl, rfl⟩
                case s6_u129v3 => assumption
                try simp only [Act.put, List.setIfInBounds_toArray, List.set_cons_zero, List.set_cons_succ]
                with_reducible refine takeI2 (i := 40) (v := ?sv_u130v3) (oi := ?s0_u130v3) (by simp only [List.getElem?_toArray, List.getElem?_cons_succ, List.getElem?_cons_zero]; exact rfl) ?s1_u130v3 ?s2_u130v3 ?s3_u130v3 ?s4_u130v3 ?s5_u130v3 ?s6_u130v3 ?s7_u130v3
                case s1_u130v3 | s2_u130v3 | s3_u130v3 => kernel_rfl
                case s4_u130v3 => exact fun _ _ _ h => h
                case s5_u130v3 => exact Or.inl ⟨rfl, by intro w hSw; (try dsimp only at hSw); go_simp; try with_reducible rfl⟩
                case s6_u130v3 => assumption
                try simp only [Act.put, List.setIfInBounds_toArray, List.set_cons_zero, List.set_cons_succ]
                with_reducible refine takeI2 (i := 41) (v := ?sv_u131v3) (oi := ?s0_u131v3) (by simp only [List.getElem?_toArray, List.getElem?_cons_succ, List.getElem?_cons_zero]; exact rfl) ?s1_u131v3 ?s2_u131v3 ?s3_u131v3 ?s4_u131v3 ?s5_u131v3 ?s6_u131v3 ?s7_u131v3
                case s1_u131v3 | s2_u131v3 | s3_u131v3 => kernel_rfl
                case s4_u131v3 => exact fun _ _ _ h => h
                case s5_u131v3 => exact Or.inl ⟨rfl, by intro w hSw; (try dsimp only at hSw); go_simp; try with_reducible rfl⟩
                case s6_u131v3 => assumption
                try simp only [Act.put, List.setIfInBounds_toArray, List.set_cons_zero, List.set_cons_succ]
                with_reducible refine wpAnyH_done ?s1_u132v3 ?s2_u132v3 _
                case s1_u132v3 => kernel_rfl
                go_wp2_with (fail)
                exact ⟨⟨j + 1, by omega, by go_num, hD.next _⟩, by simp [intOf]; omega⟩
            · go_wp2_with (fail)
              exact ⟨⟨k + 1, by omega, by go_num, hD⟩, by simp [intOf]; omega⟩
        · replace hr := hr.below hD.below
          replace hB := bvia hB hD.below
          clear hD
          go_wp2_with (fail)
          refine (at_any n 4 (by omega) (by omega) _ _ _ hr).mono ?_
          rintro e w20 ⟨xe, rfl, xe0, xe1, hd⟩
          replace hB := bvia hB hd.below
          clear hd hr
          obtain ⟨kq, kqe⟩ : ∃ r, xe % 50 = r := ⟨_, rfl⟩
          have kq1 : xe.tmod 50 = kq := by rw [Int.tmod_eq_emod_of_nonneg xe0]; exact kqe
          have kq2 : 0 ≤ kq ∧ kq ≤ 49 := by omega
          obtain ⟨kn, rfl⟩ : ∃ m : Nat, kq = m := ⟨kq.toNat, by omega⟩
          have hcv := covers_yes kn (by omega)
          have HC1 := Lib.hid (fun v w' h => implCoversAll_any [[0, (kn : Int)], [(kn : Int) + 1, 60]] 0 60 v w' h)
          have HC2 := Lib.hid (fun v w' h => implCoversAll_any [[0, (kn : Int)], [(kn : Int) + 2, 60]] 0 60 v w' h)
          rw [hcv.1] at HC1
          rw [hcv.2] at HC2
          clear hcv kqe
          have HL1 := Lib.hid (covLit w20 0 kn ((kn : Int) + 1) 60)
          go_wp2_with (fail)
          refine (HC1.out _ _ HL1.out.1).mono ?_
          rintro e w21 ⟨rfl, rfl⟩
          have hB2 := bvia hB HL1.out.2
          generalize ((w20.alloc (.cells #[.int .i64 0, .int .i64 (kn : Int)] 3)).alloc (.cells #[.int .i64 ((kn : Int) + 1), .int .i64 60] 3)).alloc (.cells #[.slice (some ⟨w20.heap.size, 0, none⟩) 2 2, .slice (some ⟨w20.heap.size + 1, 0, none⟩) 2 2] 27) = w22 at hB2 ⊢
          clear HL1 hB
          have HL2 := Lib.hid (covLit w22 0 kn ((kn : Int) + 2) 60)
          go_wp2_with (fail)
          refine (HC2.out _ _ HL2.out.1).mono ?_
          rintro e w23 ⟨rfl, rfl⟩
          have hB3 := bvia hB2 HL2.out.2
          clear HL2 hB2
          go_wp2_with (fail)
          refine (HSS.out _ _ _ _).mono ?_
          rw [size_last]
          rintro e w24 ⟨rfl, rfl⟩
          go_wp2_with (fail)
          go_returns
          exact ⟨rfl, hB3⟩
  · have hbd : decide (1048576 < n) = true := decide_eq_true (by omega)
    have hB := Below.refl w.heap.size w
    go_enter Try.func4, Try.ntmps4
    go_wp2_with (fail)
    refine (big_any n _ _ _ hr).mono ?_
    rintro e w1 ⟨rfl, rfl⟩
    go_wp2_with (fail)
    go_returns
    exact ⟨rfl, hB⟩
end Go.Proofs.Ytfedhjfijcnpdaa
