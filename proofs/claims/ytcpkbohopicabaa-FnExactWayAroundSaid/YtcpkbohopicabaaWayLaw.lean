/- The walk of FnExactWayAround. -/
import Derived.Test.YtcpkbohopicabaaIWay
namespace Go.Proofs.Ytcpkbohopicabaa
open Go.ChangeShapes Go.WideShapes Go.ChangeAt Go.RowKit Go.Joins
set_option linter.unusedSimpArgs false
set_option linter.unusedVariables false

theorem walkFnExactWayAround (wd ht : Int) (zs : List (Int × Int)) (k t0 t1 : Int) (vzs : Value) (w : World) (hzs : RdSpot w vzs zs) :
    Calls Try.prog 7 #[.int .i64 wd, .int .i64 ht, vzs, .int .i64 k, .agg #[.int .i64 t0, .int .i64 t1]] w fun e w' => e = .returned (.bool true) ∧ Below w.heap.size w w' := by
  have hmx : zs.length ≤ 9223372036854775807 := by obtain ⟨_, _, _, _, _, h1, h2, _⟩ := hzs.open; omega
  obtain ⟨azs, capzs, rfl⟩ := hzs.shape
  have hB := below_alloc1 w (.cells #[.int .i64 t0, .int .i64 t1] 48)
  have k1 : (w.alloc (.cells #[.int .i64 t0, .int .i64 t1] 48)).cell? ⟨w.heap.size, 0, none⟩ = some (.int .i64 t0) := by simp [go_sem]
  have k2 : (w.alloc (.cells #[.int .i64 t0, .int .i64 t1] 48)).cell? ⟨w.heap.size, 1, none⟩ = some (.int .i64 t1) := by simp [go_sem]
  have HS := Lib.hid (And.intro hB (And.intro k1 k2))
  clear hB k1 k2
  obtain ⟨y, hy⟩ : ∃ y, wayF wd ht zs k (t0, t1) = y := ⟨_, rfl⟩
  by_cases hl : zs.length ≤ 1048576
  · go_enter Try.func7, Try.ntmps7
    go_wp2_with (fail)
    generalize w.alloc (.cells #[.int .i64 t0, .int .i64 t1] 48) = wa at HS ⊢
    refine (szSpotS_ok _ _ _ _ (by omega) (by omega) _).mono ?_
    rintro e w' ⟨rfl, rfl⟩
    obtain ⟨hB, k1, k2⟩ := HS.out
    clear HS
    go_wp2_with (fail)
    replace hB := hB.drew
    with_reducible refine region_beg (n := 9) (S := (fun w' => w'.cell? ⟨w.heap.size, 0, none⟩ = some (.int .i64 t0) ∧ w'.cell? ⟨w.heap.size, 1, none⟩ = some (.int .i64 t1))) ?b1_u1 ?b2_u1 ?b3_u1 (fun hHeld => ?b4_u1)
    case b1_u1 => kernel_rfl
    case b2_u1 => kernel_rfl
    case b3_u1 => exact ⟨k1, k2⟩
    with_reducible refine takeI2 (i := 0) (v := ?sv_u2) (oi := ?s0_u2) (by simp only [List.getElem?_toArray, List.getElem?_cons_succ, List.getElem?_cons_zero]; exact rfl) ?s1_u2 ?s2_u2 ?s3_u2 ?s4_u2 ?s5_u2 ?s6_u2 ?s7_u2
    case s1_u2 => kernel_rfl
    case s2_u2 => kernel_rfl
    case s3_u2 => kernel_rfl
    case s4_u2 => exact fun _ _ _ h => h
    case s5_u2 => exact Or.inl ⟨rfl, by intro w hSw; (try dsimp only at hSw); go_simp; try with_reducible rfl⟩
    case s6_u2 => assumption
    try simp only [Act.put, List.setIfInBounds_toArray, List.set_cons_zero, List.set_cons_succ]
    with_reducible refine takeI2 (i := 1) (v := ?sv_u3) (oi := ?s0_u3) (by simp only [List.getElem?_toArray, List.getElem?_cons_succ, List.getElem?_cons_zero]; exact rfl) ?s1_u3 ?s2_u3 ?s3_u3 ?s4_u3 ?s5_u3 ?s6_u3 ?s7_u3
    case s1_u3 => kernel_rfl
    case s2_u3 => kernel_rfl
    case s3_u3 => kernel_rfl
    case s4_u3 => exact fun _ _ _ h => h
    case s5_u3 => exact Or.inl ⟨rfl, by intro w hSw; (try dsimp only at hSw); go_simp; try with_reducible rfl⟩
    case s6_u3 => assumption
    try simp only [Act.put, List.setIfInBounds_toArray, List.set_cons_zero, List.set_cons_succ]
    with_reducible refine takeI2 (i := 2) (v := ?sv_u4) (oi := ?s0_u4) (by simp only [List.getElem?_toArray, List.getElem?_cons_succ, List.getElem?_cons_zero]; exact rfl) ?s1_u4 ?s2_u4 ?s3_u4 ?s4_u4 ?s5_u4 ?s6_u4 ?s7_u4
    case s1_u4 => kernel_rfl
    case s2_u4 => kernel_rfl
    case s3_u4 => kernel_rfl
    case s4_u4 => exact fun _ _ _ h => h
    case s5_u4 => exact Or.inl ⟨rfl, by intro w hSw; (try dsimp only at hSw); go_simp; try with_reducible rfl⟩
    case s6_u4 => assumption
    try simp only [Act.put, List.setIfInBounds_toArray, List.set_cons_zero, List.set_cons_succ]
    with_reducible refine takeI2 (i := 4) (v := ?sv_u5) (oi := ?s0_u5) (by simp only [List.getElem?_toArray, List.getElem?_cons_succ, List.getElem?_cons_zero]; exact rfl) ?s1_u5 ?s2_u5 ?s3_u5 ?s4_u5 ?s5_u5 ?s6_u5 ?s7_u5
    case s1_u5 => kernel_rfl
    case s2_u5 => kernel_rfl
    case s3_u5 => kernel_rfl
    case s4_u5 => exact fun _ _ _ h => h
    case s5_u5 => exact Or.inl ⟨rfl, by intro w hSw; (try dsimp only at hSw); go_simp; try with_reducible rfl⟩
    case s6_u5 => assumption
    try simp only [Act.put, List.setIfInBounds_toArray, List.set_cons_zero, List.set_cons_succ]
    with_reducible refine takeI2 (i := 5) (v := ?sv_u6) (oi := ?s0_u6) (by simp only [List.getElem?_toArray, List.getElem?_cons_succ, List.getElem?_cons_zero]; exact rfl) ?s1_u6 ?s2_u6 ?s3_u6 ?s4_u6 ?s5_u6 ?s6_u6 ?s7_u6
    case s1_u6 => kernel_rfl
    case s2_u6 => kernel_rfl
    case s3_u6 => kernel_rfl
    case s4_u6 => exact fun _ _ _ h => h
    case s5_u6 => exact Or.inl ⟨rfl, by intro w hSw; (try dsimp only at hSw); go_simp; try with_reducible rfl⟩
    case s6_u6 => assumption
    try simp only [Act.put, List.setIfInBounds_toArray, List.set_cons_zero, List.set_cons_succ]
    with_reducible refine wpAnyH_ready (rs := [3]) ?s1_u7 one_ne ?s2_u7
    case s1_u7 => kernel_rfl
    with_reducible refine AllReadyH.cons (o := ?s0_u7) (by simp only [List.getElem?_toArray, List.getElem?_cons_succ, List.getElem?_cons_zero]; exact rfl) (fun K hK => ?s3_u7) AllReadyH.nil
    go_simp
    refine (toSpotS_any zs (by omega) _ _ (hzs.below hB)).mono ?_
    rintro e w1 ⟨ut, rfl, ot, hb⟩
    replace hB := bvia hB hb
    replace k1 := cell_on hb k1
    replace k2 := cell_on hb k2
    clear hb
    go_wp2_with fail
    with_reducible refine hK.out _ _ ?s1_u8 (fun hHeld => ?s2_u8)
    case s1_u8 => exact ⟨k1, k2⟩
    clear hK K
    try simp only [Act.put, List.setIfInBounds_toArray, List.set_cons_zero, List.set_cons_succ]
    with_reducible refine wpAnyH_ready (rs := [6]) ?s1_u9 one_ne ?s2_u9
    case s1_u9 => kernel_rfl
    with_reducible refine AllReadyH.cons (o := ?s0_u9) (by simp only [List.getElem?_toArray, List.getElem?_cons_succ, List.getElem?_cons_zero]; exact rfl) (fun K hK => ?s3_u9) AllReadyH.nil
    go_simp
    refine (toSpot_any _ _ _).mono ?_
    rintro e w2 ⟨rfl, hb⟩
    replace hB := bvia hB hb
    replace k1 := cell_on hb k1
    replace k2 := cell_on hb k2
    replace ot := ot.below hb
    clear hb
    go_wp2_with fail
    with_reducible refine hK.out _ _ ?s1_u10 (fun hHeld => ?s2_u10)
    case s1_u10 => exact ⟨k1, k2⟩
    clear hK K
    try simp only [Act.put, List.setIfInBounds_toArray, List.set_cons_zero, List.set_cons_succ]
    with_reducible refine wpAnyH_ready (rs := [7]) ?s1_u11 one_ne ?s2_u11
    case s1_u11 => kernel_rfl
    with_reducible refine AllReadyH.cons (o := ?s0_u11) (by simp only [List.getElem?_toArray, List.getElem?_cons_succ, List.getElem?_cons_zero]; exact rfl) (fun K hK => ?s3_u11) AllReadyH.nil
    go_simp
    refine (specWay_any wd ht zs k t0 t1 _ _ ot.rd).mono ?_
    rintro e w3 ⟨rfl, hb⟩
    replace hB := bvia hB hb
    replace k1 := cell_on hb k1
    replace k2 := cell_on hb k2
    clear hb ot
    go_wp2_with fail
    with_reducible refine hK.out _ _ ?s1_u12 (fun hHeld => ?s2_u12)
    case s1_u12 => exact ⟨k1, k2⟩
    clear hK K
    try simp only [Act.put, List.setIfInBounds_toArray, List.set_cons_zero, List.set_cons_succ]
    with_reducible refine takeI2 (i := 8) (v := ?sv_u13) (oi := ?s0_u13) (by simp only [List.getElem?_toArray, List.getElem?_cons_succ, List.getElem?_cons_zero]; exact rfl) ?s1_u13 ?s2_u13 ?s3_u13 ?s4_u13 ?s5_u13 ?s6_u13 ?s7_u13
    case s1_u13 => kernel_rfl
    case s2_u13 => kernel_rfl
    case s3_u13 => kernel_rfl
    case s4_u13 => exact fun _ _ _ h => h
    case s5_u13 => exact Or.inl ⟨rfl, by intro w hSw; (try dsimp only at hSw); go_simp; try with_reducible rfl⟩
    case s6_u13 => assumption
    try simp only [Act.put, List.setIfInBounds_toArray, List.set_cons_zero, List.set_cons_succ]
    with_reducible refine wpAnyH_done ?s1_u14 ?s2_u14 _
    case s1_u14 => kernel_rfl
    try rw [hy]
    go_wp2_with (fail)
    refine (toSpotS_any zs (by omega) _ _ (hzs.below hB)).mono ?_
    rintro e w4 ⟨ux, rfl, ox, hb⟩
    replace hB := bvia hB hb
    replace k1 := cell_on hb k1
    replace k2 := cell_on hb k2
    clear hb
    go_wp2_with (fail)
    refine (toSpot_any _ _ _).mono ?_
    rintro e w5 ⟨rfl, hb⟩
    replace hB := bvia hB hb
    replace ox := ox.below hb
    clear hb k1 k2
    go_wp2_with (fail)
    refine (implWay_any wd ht zs k t0 t1 _ _ ox.rd).mono ?_
    rintro e w6 ⟨rfl, hb⟩
    replace hB := bvia hB hb
    replace ox := ox.below hb
    clear hb
    try rw [hy]
    go_wp2_with (fail)
    refine (toSpotS_any zs (by omega) _ _ (hzs.below hB)).mono ?_
    rintro e w7 ⟨uy, rfl, oy, hb⟩
    replace hB := bvia hB hb
    replace ox := ox.below hb
    clear hb
    go_wp2_with (fail)
    refine (eqSpotS_any zs _ _ _ ox.rd oy.rd).mono ?_
    rintro e w8 ⟨rfl, hb⟩
    replace hB := bvia hB hb
    clear hb
    go_wp2_with (fail)
    go_returns
    exact ⟨rfl, hB⟩
  · go_enter Try.func7, Try.ntmps7
    go_wp2_with (fail)
    refine (szSpotS_no _ _ _ (by omega) _ (by omega) (by omega) (by omega) _).mono ?_
    rintro e w' ⟨rfl, rfl⟩
    go_wp2_with (fail)
    go_returns
    exact ⟨rfl, HS.out.1⟩
end Go.Proofs.Ytcpkbohopicabaa
