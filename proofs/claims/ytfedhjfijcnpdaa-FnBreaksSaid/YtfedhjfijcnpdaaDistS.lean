/- Distances of the reference. -/
import Derived.Test.YtfedhjfijcnpdaaWalkR
import Derived.Test.YtfedhjfijcnpdaaRg2
namespace Go.Proofs.Ytfedhjfijcnpdaa
open Go.ChangeShapes Go.WideShapes Go.ChangeAt Go.RowKit Go.Joins Tr
set_option linter.unusedSimpArgs false
set_option linter.unusedVariables false
set_option maxRecDepth 20000

theorem body_treeN {N : Nat} {zs : List LimbV} (h : bodyB N zs = true) : (1 ≤ N ∧ N ≤ 12) ∧ (∀ z ∈ zs, limbB N z = true) ∧ ∃ d, Tree N (edges zs) d := by
  obtain ⟨M, e, h1, h2, d, ht⟩ := body_tree h
  obtain rfl : N = M := by omega
  exact ⟨⟨h1, h2⟩, (body_open h).2.2.1, d, ht⟩
theorem tree_fill {N : Nat} {zs : List LimbV} {d : Nat → Nat → Int} (ht : Tree N (edges zs) d) {i j : Nat} (hi : i < N) (hj : j < N) : d j i = fill N (edges zs) i j := by rw [ht.fill i j hi hj, ht.symm j i hj hi]
theorem dr1 (w : World) : Dr w w.drew := ⟨1, rfl⟩

set_option maxHeartbeats 1000000 in
theorem specJoints_any (N : Nat) (zs : List LimbV) (hb : bodyB N zs = true) (i j : Nat) (hi : i < N) (hj : j < N) (u : Value) (w : World) (h : RdLimb w u zs) :
    Calls Try.prog 65 #[.agg #[.int .i64 N, u], .int .i64 i, .int .i64 j] w fun e w' => e = .returned (.bool true) ∧ Below w.heap.size w w' := by
  obtain ⟨ad, cap, rfl⟩ := h.shape
  have hN := (body_treeN hb).1
  have hb0 := below_alloc1 w (.cells #[.int .i64 N, .slice ad zs.length cap] 26)
  have hx0 := BX.new w N (.slice ad zs.length cap)
  have HR := Lib.hid (h.below hb0)
  have HS := Lib.hid (And.intro hb0 hx0)
  have HBO := Lib.hid (fun w' h => specBodyOk_any N zs (.slice ad zs.length cap) w' h)
  rw [hb] at HBO
  have h1 : inB (i : Int) 0 ((N : Int) - 1) = true := inB_true.2 (by omega)
  have h2 : inB (j : Int) 0 ((N : Int) - 1) = true := inB_true.2 (by omega)
  have HI1 := Lib.hid (fun w' => l01In_any i 0 ((N : Int) - 1) w')
  have HI2 := Lib.hid (fun w' => l01In_any j 0 ((N : Int) - 1) w')
  rw [h1] at HI1
  rw [h2] at HI2
  clear hb0 hx0 h hb h1 h2
  go_enter Try.func65, Try.ntmps65
  go_wp2_with (fail)
  generalize w.alloc (.cells #[.int .i64 N, .slice ad zs.length cap] 26) = w1 at HS HR ⊢
  obtain ⟨hB, hX⟩ := HS.out
  clear HS
  obtain ⟨m0, m1⟩ := id hX
  go_wp2_with (fail)
  refine (HBO.out _ HR.out).mono ?_
  rintro e w2 ⟨rfl, hb⟩
  replace hX := hX.below hb
  replace hB := bvia hB hb
  clear m0 m1 hb HBO HR
  obtain ⟨m0, m1⟩ := id hX
  go_wp2_with (fail)
  refine (HI1.out _).mono ?_
  rintro e w3 ⟨rfl, rfl⟩
  go_wp2_with (fail)
  refine (HI2.out _).mono ?_
  rintro e w4 ⟨rfl, rfl⟩
  go_wp2_with (fail)
  go_ret
  exact ⟨rfl, hB⟩

set_option maxHeartbeats 1000000 in
theorem specDistanceOf_any (N : Nat) (zs : List LimbV) (hb : bodyB N zs = true) (i j : Nat) (hi : i < N) (hj : j < N) (u : Value) (w : World) (h : RdLimb w u zs) :
    Calls Try.prog 66 #[.agg #[.int .i64 N, u], .int .i64 i, .int .i64 j] w fun e w' => e = .returned (.int .i64 (fill N (edges zs) i j)) ∧ Below w.heap.size w w' := by
  obtain ⟨ad, cap, rfl⟩ := h.shape
  obtain ⟨hN, hzs, d, ht⟩ := body_treeN hb
  have hb0 := below_alloc1 w (.cells #[.int .i64 N, .slice ad zs.length cap] 26)
  have hx0 := BX.new w N (.slice ad zs.length cap)
  have HS := Lib.hid (And.intro hb0 (And.intro hx0 (h.below hb0)))
  have HJ := Lib.hid (fun w' h => specJoints_any N zs hb i j hi hj (.slice ad zs.length cap) w' h)
  have hji := ht.le j i hj hi
  have htow : Tow (edges zs) d j i (-1) := fun p hp => by omega
  have HW := Lib.hid (fun w' h => specWalk_tow N zs d ht hzs hN.2 j hj 1300 i (-1) (.slice ad zs.length cap) w' hi htow (by omega) h)
  have HL := Lib.hid (fun (x y : Nat) (L : Int) (hA : Adj (edges zs) x y L) (he : d j x = d j y + L) w' h => specLength_any N zs hzs x y L (fun M hM => adj_len ht hj hA he hM) ⟨L, hA⟩ (.slice ad zs.length cap) w' h)
  have HT := Lib.hid ht
  have HF := Lib.hid (tree_fill ht hi hj)
  clear hb0 hx0 h hb hzs htow ht
  go_enter Try.func66, Try.ntmps66
  go_wp2_with (fail)
  generalize w.alloc (.cells #[.int .i64 N, .slice ad zs.length cap] 26) = w1 at HS ⊢
  obtain ⟨hB, hX, hR⟩ := HS.out
  clear HS
  obtain ⟨m0, m1⟩ := id hX
  go_wp2_with (fail)
  refine (HJ.out _ hR).mono ?_
  rintro e w2 ⟨rfl, hb⟩
  replace hX := hX.below hb
  replace hR := hR.below hb
  replace hB := bvia hB hb
  clear m0 m1 hb HJ
  obtain ⟨m0, m1⟩ := id hX
  go_wp2_with (fail)
  refine (HW.out _ hR).mono ?_
  rintro e w3 ⟨v, r, rfl, hway, hv, hb⟩
  replace hX := hX.below hb
  replace hR := hR.below hb
  replace hB := bvia hB hb
  clear m0 m1 hb HW
  have hwl := (hway.len HT.out hj i r rfl).2
  obtain ⟨aw, cw, bw, ow, rfl, hcw, hmw, haw, hcl⟩ := hv.open
  obtain ⟨M, hM⟩ : ∃ M, (nats (i :: r)).length = M := ⟨_, rfl⟩
  have hM1 : 1 ≤ M ∧ M ≤ 1300 := by rw [← hM, nats_len]; simp at hwl ⊢; omega
  rw [hM] at hcw haw hcl ⊢
  have hML : (i :: r).length = M := by rw [← hM, nats_len]
  obtain rfl := haw (by omega)
  have hCL : ∀ (k x : Nat), (i :: r)[k]? = some x → w3.cell? ⟨bw, ow + k, none⟩ = some (.int .i64 (x : Int)) := by
    intro k x hx
    have hk := (List.getElem?_eq_some_iff.1 hx).1
    have := hcl k (by omega)
    rw [List.getD_eq_getElem?_getD, nats_get hx] at this
    exact this
  have HCL := Lib.hid hCL
  have HWY := Lib.hid (And.intro hway (And.intro hML hB))
  have hB3 := Below.refl w3.heap.size w3
  clear hwl hv hM haw hcl hCL hway hML hB
  go_wp2_with (fail)
  go_loopw [7, 9] (fun n k wr => ∃ (q x : Nat) (y : Int), q + 1 ≤ M ∧ k = .int .i64 ((q : Int) + 1) ∧ n = .int .i64 y ∧ Hid ((i :: r)[q]? = some x ∧ y = d j i - d j x) ∧ Below w3.heap.size w3 wr) (fun _ k _ => M - (intOf k).toNat)
  case atStart => exact ⟨0, i, 0, hM1.1, rfl, rfl, ⟨rfl, by omega⟩, hB3⟩
  case round =>
   focus
    clear hB3
    obtain ⟨q, x, n, hq, rfl, rfl, HQ, hD⟩ := hrel
    have hx := HQ.out.1
    have hyn := HQ.out.2
    by_cases hlt : q + 1 < M
    · obtain ⟨y, hy⟩ : ∃ y, (i :: r)[q + 1]? = some y := ⟨_, List.getElem?_eq_getElem (by rw [HWY.out.2.1]; exact hlt)⟩
      obtain ⟨L, hA, he⟩ := HWY.out.1.next q x y hx hy
      have hr2 := hA.rng (fun e he => ⟨(HT.out.ok e he).1, (HT.out.ok e he).2.1⟩)
      have b1 := HT.out.le j x hj hr2.1
      have b2 := HT.out.le j y hj hr2.2
      have e0 := cell_on hD (HCL.out q x hx)
      have e1 := cell_on hD (HCL.out (q + 1) y hy)
      have HLL := Lib.hid (fun w' h => HL.out x y L hA he w' h)
      have HY2 : Hid ((i :: r)[q + 1]? = some y ∧ n + L = d j i - d j y) := ⟨hy, by omega⟩
      have hn1 : -1300 ≤ n ∧ n ≤ 1300 := by omega
      have hL1 : -1300 ≤ L ∧ L ≤ 1300 := by omega
      have hwr : IntKind.i64.wrap (n + L) = n + L := IntWalk.i64_in _ (by omega)
      have qlt : (q : Int) + 1 < (M : Int) := by omega
      have qlt0 : (q : Int) < (M : Int) := by omega
      have qge : (0 : Int) ≤ (q : Int) + 1 := by omega
      have hwq : IntKind.i64.wrap (q : Int) = q := IntWalk.i64_in _ (by omega)
      have hX2 := hX.below hD
      have hR2 := hR.below hD
      clear HQ hx hyn hy hA he hr2 b1 b2
      go_wp2_with (fail)
      replace e0 := (dr1 wr).cell e0
      replace e1 := (dr1 wr).cell e1
      replace hX2 := hX2.below (dr1 wr).below
      replace hR2 := hR2.below (dr1 wr).below
      replace hD := bvia hD (dr1 wr).below
      with_reducible refine region_beg (n := 14) (S := (fun w' => (w'.cell? ⟨w.heap.size, 0, none⟩ = some (.int .i64 (N : Int)) ∧ w'.cell? ⟨w.heap.size, 1, none⟩ = some (.slice ad zs.length cap)) ∧ w'.cell? ⟨bw, ow + q, none⟩ = some (.int .i64 (x : Int)) ∧ w'.cell? ⟨bw, ow + (q + 1), none⟩ = some (.int .i64 (y : Int)))) ?b1_u1 ?b2_u1 ?b3_u1 (fun hHeld => ?b4_u1)
      case b1_u1 => kernel_rfl
      case b2_u1 => kernel_rfl
      case b3_u1 => (try dsimp only); exact ⟨hX2, e0, e1⟩
      with_reducible refine takeI2 (i := 0) (v := ?sv_u2) (oi := ?s0_u2) (by simp only [List.getElem?_toArray, List.getElem?_cons_succ, List.getElem?_cons_zero]; exact rfl) ?s1_u2 ?s2_u2 ?s3_u2 ?s4_u2 ?s5_u2 ?s6_u2 ?s7_u2
      case s1_u2 => kernel_rfl
      case s2_u2 => kernel_rfl
      case s3_u2 => kernel_rfl
      case s4_u2 => exact fun _ _ _ h => h
      case s5_u2 => exact Or.inl ⟨rfl, by intro w hSw; (try dsimp only at hSw); go_simp; try with_reducible rfl⟩
      case s6_u2 => assumption
      try simp only [Act.put, List.setIfInBounds_toArray, List.set_cons_zero, List.set_cons_succ]
      with_reducible refine takeI2 (i := 1) (v := ?sv_u3) (oi := ?s0_u3) (by simp only [List.getElem?_toArray, List.getElem?_cons_succ, List.getElem?_cons_zero]; exact rfl) ?s1_u3 ?s2_u3 ?s3_u3 ?s4_u3 ?s5_u3 ?s6_u3 ?s7_u3
      case s1_u3 => kernel_rfl
      case s2_u3 => kernel_rfl
      case s3_u3 => kernel_rfl
      case s4_u3 => exact fun _ _ _ h => h
      case s5_u3 => exact Or.inl ⟨rfl, by intro w hSw; (try dsimp only at hSw); go_simp; try with_reducible rfl⟩
      case s6_u3 => assumption
      try simp only [Act.put, List.setIfInBounds_toArray, List.set_cons_zero, List.set_cons_succ]
      with_reducible refine takeI2 (i := 2) (v := ?sv_u4) (oi := ?s0_u4) (by simp only [List.getElem?_toArray, List.getElem?_cons_succ, List.getElem?_cons_zero]; exact rfl) ?s1_u4 ?s2_u4 ?s3_u4 ?s4_u4 ?s5_u4 ?s6_u4 ?s7_u4
      case s1_u4 => kernel_rfl
      case s2_u4 => kernel_rfl
      case s3_u4 => kernel_rfl
      case s4_u4 => exact fun _ _ _ h => h
      case s5_u4 => exact Or.inl ⟨rfl, by intro w hSw; (try dsimp only at hSw); go_simp; try with_reducible rfl⟩
      case s6_u4 => assumption
      try simp only [Act.put, List.setIfInBounds_toArray, List.set_cons_zero, List.set_cons_succ]
      with_reducible refine takeI2 (i := 3) (v := ?sv_u5) (oi := ?s0_u5) (by simp only [List.getElem?_toArray, List.getElem?_cons_succ, List.getElem?_cons_zero]; exact rfl) ?s1_u5 ?s2_u5 ?s3_u5 ?s4_u5 ?s5_u5 ?s6_u5 ?s7_u5
      case s1_u5 => kernel_rfl
      case s2_u5 => kernel_rfl
      case s3_u5 => kernel_rfl
      case s4_u5 => exact fun _ _ _ h => h
      case s5_u5 => exact Or.inl ⟨rfl, by intro w hSw; (try dsimp only at hSw); go_simp; try with_reducible rfl⟩
      case s6_u5 => assumption
      try simp only [Act.put, List.setIfInBounds_toArray, List.set_cons_zero, List.set_cons_succ]
      with_reducible refine takeI2 (i := 4) (v := ?sv_u6) (oi := ?s0_u6) (by simp only [List.getElem?_toArray, List.getElem?_cons_succ, List.getElem?_cons_zero]; exact rfl) ?s1_u6 ?s2_u6 ?s3_u6 ?s4_u6 ?s5_u6 ?s6_u6 ?s7_u6
      case s1_u6 => kernel_rfl
      case s2_u6 => kernel_rfl
      case s3_u6 => kernel_rfl
      case s4_u6 => exact fun _ _ _ h => h
      case s5_u6 => exact Or.inl ⟨rfl, by intro w hSw; (try dsimp only at hSw); go_simp; try with_reducible rfl⟩
      case s6_u6 => assumption
      try simp only [Act.put, List.setIfInBounds_toArray, List.set_cons_zero, List.set_cons_succ]
      with_reducible refine takeI2 (i := 5) (v := ?sv_u7) (oi := ?s0_u7) (by simp only [List.getElem?_toArray, List.getElem?_cons_succ, List.getElem?_cons_zero]; exact rfl) ?s1_u7 ?s2_u7 ?s3_u7 ?s4_u7 ?s5_u7 ?s6_u7 ?s7_u7
      case s1_u7 => kernel_rfl
      case s2_u7 => kernel_rfl
      case s3_u7 => kernel_rfl
      case s4_u7 => exact fun _ _ _ h => h
      case s5_u7 => exact Or.inl ⟨rfl, by intro w hSw; (try dsimp only at hSw); go_simp; try with_reducible rfl⟩
      case s6_u7 => assumption
      try simp only [Act.put, List.setIfInBounds_toArray, List.set_cons_zero, List.set_cons_succ]
      with_reducible refine takeI2 (i := 6) (v := ?sv_u8) (oi := ?s0_u8) (by simp only [List.getElem?_toArray, List.getElem?_cons_succ, List.getElem?_cons_zero]; exact rfl) ?s1_u8 ?s2_u8 ?s3_u8 ?s4_u8 ?s5_u8 ?s6_u8 ?s7_u8
      case s1_u8 => kernel_rfl
      case s2_u8 => kernel_rfl
      case s3_u8 => kernel_rfl
      case s4_u8 => exact fun _ _ _ h => h
      case s5_u8 => exact Or.inl ⟨rfl, by intro w hSw; (try dsimp only at hSw); go_simp; try with_reducible rfl⟩
      case s6_u8 => assumption
      try simp only [Act.put, List.setIfInBounds_toArray, List.set_cons_zero, List.set_cons_succ]
      with_reducible refine takeI2 (i := 7) (v := ?sv_u9) (oi := ?s0_u9) (by simp only [List.getElem?_toArray, List.getElem?_cons_succ, List.getElem?_cons_zero]; exact rfl) ?s1_u9 ?s2_u9 ?s3_u9 ?s4_u9 ?s5_u9 ?s6_u9 ?s7_u9
      case s1_u9 => kernel_rfl
      case s2_u9 => kernel_rfl
      case s3_u9 => kernel_rfl
      case s4_u9 => exact fun _ _ _ h => h
      case s5_u9 => exact Or.inl ⟨rfl, by intro w hSw; (try dsimp only at hSw); go_simp; try with_reducible rfl⟩
      case s6_u9 => assumption
      try simp only [Act.put, List.setIfInBounds_toArray, List.set_cons_zero, List.set_cons_succ]
      with_reducible refine takeI2 (i := 8) (v := ?sv_u10) (oi := ?s0_u10) (by simp only [List.getElem?_toArray, List.getElem?_cons_succ, List.getElem?_cons_zero]; exact rfl) ?s1_u10 ?s2_u10 ?s3_u10 ?s4_u10 ?s5_u10 ?s6_u10 ?s7_u10
      case s1_u10 => kernel_rfl
      case s2_u10 => kernel_rfl
      case s3_u10 => kernel_rfl
      case s4_u10 => exact fun _ _ _ h => h
      case s5_u10 => exact Or.inl ⟨rfl, by intro w hSw; (try dsimp only at hSw); go_simp; try with_reducible rfl⟩
      case s6_u10 => assumption
      try simp only [Act.put, List.setIfInBounds_toArray, List.set_cons_zero, List.set_cons_succ]
      with_reducible refine takeI2 (i := 9) (v := ?sv_u11) (oi := ?s0_u11) (by simp only [List.getElem?_toArray, List.getElem?_cons_succ, List.getElem?_cons_zero]; exact rfl) ?s1_u11 ?s2_u11 ?s3_u11 ?s4_u11 ?s5_u11 ?s6_u11 ?s7_u11
      case s1_u11 => kernel_rfl
      case s2_u11 => kernel_rfl
      case s3_u11 => kernel_rfl
      case s4_u11 => exact fun _ _ _ h => h
      case s5_u11 => exact Or.inl ⟨rfl, by intro w hSw; (try dsimp only at hSw); go_simp; try with_reducible rfl⟩
      case s6_u11 => assumption
      try simp only [Act.put, List.setIfInBounds_toArray, List.set_cons_zero, List.set_cons_succ]
      with_reducible refine takeI2 (i := 10) (v := ?sv_u12) (oi := ?s0_u12) (by simp only [List.getElem?_toArray, List.getElem?_cons_succ, List.getElem?_cons_zero]; exact rfl) ?s1_u12 ?s2_u12 ?s3_u12 ?s4_u12 ?s5_u12 ?s6_u12 ?s7_u12
      case s1_u12 => kernel_rfl
      case s2_u12 => kernel_rfl
      case s3_u12 => kernel_rfl
      case s4_u12 => exact fun _ _ _ h => h
      case s5_u12 => exact Or.inl ⟨rfl, by intro w hSw; (try dsimp only at hSw); go_simp; try with_reducible rfl⟩
      case s6_u12 => assumption
      try simp only [Act.put, List.setIfInBounds_toArray, List.set_cons_zero, List.set_cons_succ]
      with_reducible refine wpAnyH_ready (rs := [11]) ?s1_u13 one_ne ?s2_u13
      case s1_u13 => kernel_rfl
      with_reducible refine AllReadyH.cons (o := ?s0_u13) (by simp only [List.getElem?_toArray, List.getElem?_cons_succ, List.getElem?_cons_zero]; exact rfl) (fun K hK => ?s3_u13) AllReadyH.nil
      go_simp
      refine (HLL.out _ hR2).mono ?_
      rintro e wl ⟨rfl, hb⟩
      replace hX2 := hX2.below hb
      replace hR2 := hR2.below hb
      replace e0 := cell_on hb e0
      replace e1 := cell_on hb e1
      replace hD := bvia hD hb
      clear hb
      go_wp2_with fail
      with_reducible refine hK.out _ _ ?s1_u14 (fun hHeld => ?s2_u14)
      case s1_u14 => (try dsimp only); exact ⟨hX2, e0, e1⟩
      clear hK K
      try simp only [Act.put, List.setIfInBounds_toArray, List.set_cons_zero, List.set_cons_succ]
      with_reducible refine takeI2 (i := 12) (v := ?sv_u15) (oi := ?s0_u15) (by simp only [List.getElem?_toArray, List.getElem?_cons_succ, List.getElem?_cons_zero]; exact rfl) ?s1_u15 ?s2_u15 ?s3_u15 ?s4_u15 ?s5_u15 ?s6_u15 ?s7_u15
      case s1_u15 => kernel_rfl
      case s2_u15 => kernel_rfl
      case s3_u15 => kernel_rfl
      case s4_u15 => exact fun _ _ _ h => h
      case s5_u15 => exact Or.inl ⟨rfl, by intro w hSw; (try dsimp only at hSw); go_simp; try with_reducible rfl⟩
      case s6_u15 => assumption
      try simp only [Act.put, List.setIfInBounds_toArray, List.set_cons_zero, List.set_cons_succ]
      with_reducible refine takeI2 (i := 13) (v := ?sv_u16) (oi := ?s0_u16) (by simp only [List.getElem?_toArray, List.getElem?_cons_succ, List.getElem?_cons_zero]; exact rfl) ?s1_u16 ?s2_u16 ?s3_u16 ?s4_u16 ?s5_u16 ?s6_u16 ?s7_u16
      case s1_u16 => kernel_rfl
      case s2_u16 => kernel_rfl
      case s3_u16 => kernel_rfl
      case s4_u16 => exact fun _ _ _ h => h
      case s5_u16 => exact Or.inl ⟨rfl, by intro w hSw; (try dsimp only at hSw); go_simp; try with_reducible rfl⟩
      case s6_u16 => assumption
      try simp only [Act.put, List.setIfInBounds_toArray, List.set_cons_zero, List.set_cons_succ]
      with_reducible refine wpAnyH_done ?s1_u17 ?s2_u17 _
      case s1_u17 => kernel_rfl
      go_wp2_with (fail)
      exact ⟨⟨q + 1, y, n + L, by omega, by go_num, rfl, HY2, hD⟩, by simp [intOf]; omega⟩
    · have hxj := HWY.out.1.fin q x (by rw [HWY.out.2.1]; omega) hx
      have hnv : n = fill N (edges zs) i j := by
        rw [hxj, HT.out.self j] at hyn
        rw [← HF.out]
        omega
      have HNV := Lib.hid hnv
      have qlt : ¬ (q : Int) + 1 < (M : Int) := by omega
      clear HQ hx hyn hxj hnv
      go_wp2_with (fail)
      go_ret
      exact ⟨ret_int HNV.out, bvia HWY.out.2.2 hD⟩

set_option maxHeartbeats 1000000 in
theorem specDistancesFrom_any (N : Nat) (zs : List LimbV) (hb : bodyB N zs = true) (i : Nat) (hi : i < N) (u : Value) (w : World) (h : RdLimb w u zs) :
    Calls Try.prog 44 #[.agg #[.int .i64 N, u], .int .i64 i] w fun e w' => ∃ v, e = .returned v ∧ OwI w' w.heap.size v (distL N zs i) ∧ Below w.heap.size w w' := by
  obtain ⟨ad, cap, rfl⟩ := h.shape
  have hN := (body_treeN hb).1
  have hb0 := below_alloc1 w (.cells #[.int .i64 N, .slice ad zs.length cap] 26)
  have hx0 := BX.new w N (.slice ad zs.length cap)
  have hsa : (w.alloc (.cells #[.int .i64 N, .slice ad zs.length cap] 26)).heap.size = w.heap.size + 1 := by simp
  have hb1 := below_alloc1 (w.alloc (.cells #[.int .i64 N, .slice ad zs.length cap] 26)) (.cells #[] 3)
  have ho := OwI.empty_at (w.alloc (.cells #[.int .i64 N, .slice ad zs.length cap] 26)) (w.heap.size + 1) (g := w.heap.size + 1) hsa.symm (by omega)
  have HS := Lib.hid (And.intro hb0 (And.intro hx0 (And.intro (h.below hb0) (And.intro hsa (And.intro hb1 ho)))))
  have HJ := Lib.hid (fun w' h => specJoints_any N zs hb i i hi hi (.slice ad zs.length cap) w' h)
  have HD := Lib.hid (fun j hj w' h => specDistanceOf_any N zs hb i j hi hj (.slice ad zs.length cap) w' h)
  clear hb0 hx0 h hb hb1 hsa ho
  go_enter Try.func44, Try.ntmps44
  go_wp2_with (fail)
  generalize w.alloc (.cells #[.int .i64 N, .slice ad zs.length cap] 26) = w1 at HS ⊢
  generalize hwa : w1.alloc (.cells #[] 3) = wa at HS ⊢
  clear hwa
  obtain ⟨hB1, hX, hR, hs1, hB, ho⟩ := HS.out
  have hs2 : w1.heap.size ≤ w.heap.size + 1 := by omega
  have hs3 : w.heap.size + 1 ≤ w1.heap.size := by omega
  have HB1 := Lib.hid (And.intro hB1 hs1)
  have HX := Lib.hid (And.intro hX hR)
  clear HS hB1 hs1 hX hR
  go_loopw [5, 6] (fun v k wr => ∃ q : Nat, q ≤ N ∧ k = .int .i64 q ∧ OwI wr (w.heap.size + 1) v (rl q (fill N (edges zs) i)) ∧ Below w1.heap.size w1 wr) (fun _ k _ => N - (intOf k).toNat)
  case atStart => exact ⟨0, Nat.zero_le _, rfl, ho, hB⟩
  case round =>
   focus
    clear ho hB
    obtain ⟨q, hq, rfl, ho, hB⟩ := hrel
    have hX := HX.out.1.below hB
    have hR := HX.out.2.below hB
    obtain ⟨m0, m1⟩ := id hX
    by_cases hlt : q < N
    · have HD2 := Lib.hid (fun w' h => HD.out q hlt w' h)
      have qlt : (q : Int) < (N : Int) := by omega
      have hql : q ≤ 20 := by omega
      go_wp2_with (fail)
      refine (HJ.out _ hR).mono ?_
      rintro e w2 ⟨rfl, hb⟩
      replace hX := hX.below hb
      replace hR := hR.below hb
      replace ho := ho.below hb
      replace hB := bvia hB hb
      clear m0 m1 hb
      obtain ⟨m0, m1⟩ := id hX
      go_wp2_with (fail)
      refine (HD2.out _ hR).mono ?_
      rintro e w3 ⟨rfl, hb⟩
      replace hX := hX.below hb
      replace hR := hR.below hb
      replace ho := ho.below hb
      replace hB := bvia hB hb
      have hbs := hB.size
      have HXR := Lib.hid (rl_succ q (fill N (edges zs) i))
      have hbs2 : w.heap.size + 1 ≤ w3.heap.size := by omega
      have hlen : (rl q (fill N (edges zs) i)).length ≤ 20 := by rw [rl_len]; exact hql
      obtain ⟨va, vc, rfl⟩ := ho.rd.shape
      clear m0 m1 hb HD2 hX hR
      generalize fill N (edges zs) i q = fv at HXR ⊢
      generalize rl q (fill N (edges zs) i) = fl at ho HXR hlen ⊢
      go_wp2_with (at_builtin; refine wpList_pushI rfl (.tmp 20) (.tmp 25) rfl _ _ (w.heap.size + 1) _ _ rfl ho rfl (by omega) (by omega) ?_; intro v2 w4 o2 hgr _; have hB2 := ho.grown_below hB hs2 hgr; clear hgr)
      exact ⟨⟨q + 1, by omega, by go_num, by rw [HXR.out]; exact o2, hB2⟩, by simp [intOf]; omega⟩
    · obtain rfl : q = N := by omega
      go_wp2_with (fail)
      go_ret
      refine ⟨_, rfl, ?_, bvia HB1.out.1 hB⟩
      unfold distL
      rw [Int.toNat_natCast]
      exact ho.base (by omega)
end Go.Proofs.Ytfedhjfijcnpdaa
