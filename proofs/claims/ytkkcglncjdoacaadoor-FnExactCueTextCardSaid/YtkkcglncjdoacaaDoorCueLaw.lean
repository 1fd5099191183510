/- The walk of FnExactCueText. -/
import Derived.Test.YtkkcglncjdoacaaDoorCueText
import Derived.Test.YtkkcglncjdoacaaDoorLaid
namespace Go.Proofs.YtkkcglncjdoacaaDoor
open Go.ChangeShapes Go.WideShapes Go.ChangeAt Go.RowKit Go.Joins
set_option linter.unusedSimpArgs false
set_option linter.unusedVariables false
set_option maxRecDepth 20000

theorem walkFnExactCueText (t : Int) (a p : List Int) (u1 u2 : Value) (w : World) (h1 : RdI w u1 a) (h2 : RdI w u2 p) (ht : Pow10 w) :
    Calls Tryd.prog 4 #[.agg #[.int .i64 t, u1, u2]] w fun e w' => e = .returned (.bool true) ∧ Below w.heap.size w w' := by
  have hm1 : a.length ≤ 9223372036854775807 := by obtain ⟨_, _, _, _, _, q1, q2, _⟩ := h1.open; omega
  have hm2 : p.length ≤ 9223372036854775807 := by obtain ⟨_, _, _, _, _, q1, q2, _⟩ := h2.open; omega
  obtain ⟨a1, c1, rfl⟩ := h1.shape
  obtain ⟨a2, c2, rfl⟩ := h2.shape
  have hB := below_alloc1 w (.cells #[.int .i64 t, .slice a1 a.length c1, .slice a2 p.length c2] 28)
  obtain ⟨k0, k1, k2⟩ : (w.alloc (.cells #[.int .i64 t, .slice a1 a.length c1, .slice a2 p.length c2] 28)).cell? ⟨w.heap.size, 0, none⟩ = some (.int .i64 t) ∧ (w.alloc (.cells #[.int .i64 t, .slice a1 a.length c1, .slice a2 p.length c2] 28)).cell? ⟨w.heap.size, 1, none⟩ = some (.slice a1 a.length c1) ∧ (w.alloc (.cells #[.int .i64 t, .slice a1 a.length c1, .slice a2 p.length c2] 28)).cell? ⟨w.heap.size, 2, none⟩ = some (.slice a2 p.length c2) := by refine ⟨?_, ?_, ?_⟩ <;> simp [go_sem]
  have HA := Lib.hid (And.intro hB (And.intro k0 (And.intro k1 k2)))
  obtain ⟨s, hs⟩ : ∃ s : ByteArray, (⟨(cueL t a p).toArray⟩ : ByteArray) = s := ⟨_, rfl⟩
  have HS := Lib.hid (fun u1 u2 w' h1 h2 h => specCueText_any t a p u1 u2 w' h1 h2 h)
  have HI := Lib.hid (fun u1 u2 w' h1 h2 h => implCueText_any t a p u1 u2 w' h1 h2 h)
  rw [hs] at HS HI
  have HT := Lib.hid ht
  clear hs ht hB k0 k1 k2
  by_cases hl : a.length + p.length ≤ 1048576
  · go_enter Tryd.func4, Tryd.ntmps4
    go_wp2_with (fail)
    generalize w.alloc (.cells #[.int .i64 t, .slice a1 a.length c1, .slice a2 p.length c2] 28) = w1 at HA ⊢
    obtain ⟨hB, k0, k1, k2⟩ := HA.out
    clear HA
    refine (szCue_ok t a1 a2 a.length p.length c1 c2 _ (by omega) (by omega) _).mono ?_
    rintro e w2 ⟨rfl, hb⟩
    replace hB := bvia hB hb
    replace k0 := cell_on hb k0
    replace k1 := cell_on hb k1
    replace k2 := cell_on hb k2
    clear hb
    go_wp2_with (fail)
    refine (toCue_any t a p (by omega) (by omega) _ _ _ (h1.below hB) (h2.below hB)).mono ?_
    rintro e w3 ⟨v1, v2, rfl, o1, o2, hb⟩
    replace hB := bvia hB hb
    replace k0 := cell_on hb k0
    replace k1 := cell_on hb k1
    replace k2 := cell_on hb k2
    clear hb
    go_wp2_with (fail)
    refine (HS.out _ _ _ o1.rd o2.rd (tabIs_below HT.out hB)).mono ?_
    rintro e w4 ⟨rfl, hb⟩
    clear o1 o2
    replace hB := bvia hB hb
    replace k0 := cell_on hb k0
    replace k1 := cell_on hb k1
    replace k2 := cell_on hb k2
    clear hb
    go_wp2_with (fail)
    refine (toCue_any t a p (by omega) (by omega) _ _ _ (h1.below hB) (h2.below hB)).mono ?_
    rintro e w5 ⟨v1, v2, rfl, o1, o2, hb⟩
    replace hB := bvia hB hb
    replace k0 := cell_on hb k0
    replace k1 := cell_on hb k1
    replace k2 := cell_on hb k2
    clear hb
    obtain ⟨b1, d1, rfl⟩ := o1.rd.shape
    obtain ⟨b2, d2, rfl⟩ := o2.rd.shape
    have hb := below_alloc1 w5 (.cells #[.int .i64 t, .slice b1 a.length d1, .slice b2 p.length d2] 31)
    obtain ⟨q0, q1, q2⟩ : (w5.alloc (.cells #[.int .i64 t, .slice b1 a.length d1, .slice b2 p.length d2] 31)).cell? ⟨w5.heap.size, 0, none⟩ = some (.int .i64 t) ∧ (w5.alloc (.cells #[.int .i64 t, .slice b1 a.length d1, .slice b2 p.length d2] 31)).cell? ⟨w5.heap.size, 1, none⟩ = some (.slice b1 a.length d1) ∧ (w5.alloc (.cells #[.int .i64 t, .slice b1 a.length d1, .slice b2 p.length d2] 31)).cell? ⟨w5.heap.size, 2, none⟩ = some (.slice b2 p.length d2) := by refine ⟨?_, ?_, ?_⟩ <;> simp [go_sem]
    have o1' := o1.rd.below hb
    have o2' := o2.rd.below hb
    have HA := Lib.hid (And.intro (bvia hB hb) (And.intro (cell_on hb k0) (And.intro (cell_on hb k1) (And.intro (cell_on hb k2) (And.intro q0 (And.intro q1 (And.intro q2 (And.intro o1' o2'))))))))
    clear hB hb q0 q1 q2 o1 o2 o1' o2'
    go_wp2_with (fail)
    generalize w5.alloc (.cells #[.int .i64 t, .slice b1 a.length d1, .slice b2 p.length d2] 31) = w6 at HA ⊢
    generalize w5.heap.size = g5 at HA ⊢
    clear k0 k1 k2
    obtain ⟨hB, k0, k1, k2, q0, q1, q2, o1, o2⟩ := HA.out
    clear HA
    refine (HI.out _ _ _ o1 o2 (tabIs_below HT.out hB)).mono ?_
    rintro e w9 ⟨rfl, hb⟩
    replace o1 := o1.below hb
    replace o2 := o2.below hb
    replace hB := bvia hB hb
    replace k0 := cell_on hb k0
    replace k1 := cell_on hb k1
    replace k2 := cell_on hb k2
    replace q0 := cell_on hb q0
    replace q1 := cell_on hb q1
    replace q2 := cell_on hb q2
    clear hb
    go_wp2_with (fail)
    replace o1 := o1.drew
    replace o2 := o2.drew
    replace hB := hB.drew
    with_reducible refine region_beg (n := 5) (S := (fun w' => (w'.cell? ⟨w.heap.size, 0, none⟩ = some (.int .i64 t) ∧ w'.cell? ⟨w.heap.size, 1, none⟩ = some (.slice a1 a.length c1) ∧ w'.cell? ⟨w.heap.size, 2, none⟩ = some (.slice a2 p.length c2)) ∧ w'.cell? ⟨g5, 0, none⟩ = some (.int .i64 t) ∧ w'.cell? ⟨g5, 1, none⟩ = some (.slice b1 a.length d1) ∧ w'.cell? ⟨g5, 2, none⟩ = some (.slice b2 p.length d2))) ?b1_u1 ?b2_u1 ?b3_u1 (fun hHeld => ?b4_u1)
    case b1_u1 => kernel_rfl
    case b2_u1 => kernel_rfl
    case b3_u1 => (try dsimp only); exact ⟨⟨k0, k1, k2⟩, q0, q1, q2⟩
    with_reducible refine takeI2 (i := 0) (v := ?sv_u2) (oi := ?s0_u2) (by simp only [List.getElem?_toArray, List.getElem?_cons_succ, List.getElem?_cons_zero]; exact rfl) ?s1_u2 ?s2_u2 ?s3_u2 ?s4_u2 ?s5_u2 ?s6_u2 ?s7_u2
    case s1_u2 => kernel_rfl
    case s2_u2 => kernel_rfl
    case s3_u2 => kernel_rfl
    case s4_u2 => exact fun _ _ _ h => h
    case s5_u2 => exact Or.inl ⟨rfl, by intro w hSw; (try dsimp only at hSw); go_simp; try with_reducible rfl⟩
    case s6_u2 => assumption
    try simp only [Act.put, List.setIfInBounds_toArray, List.set_cons_zero, List.set_cons_succ]
    with_reducible refine takeI2 (i := 1) (v := ?sv_u3) (oi := ?s0_u3) (by simp only [List.getElem?_toArray, List.getElem?_cons_succ, List.getElem?_cons_zero]; exact rfl) ?s1_u3 ?s2_u3 ?s3_u3 ?s4_u3 ?s5_u3 ?s6_u3 ?s7_u3
    case s1_u3 => kernel_rfl
    case s2_u3 => kernel_rfl
    case s3_u3 => kernel_rfl
    case s4_u3 => exact fun _ _ _ h => h
    case s5_u3 => exact Or.inl ⟨rfl, by intro w hSw; (try dsimp only at hSw); go_simp; try with_reducible rfl⟩
    case s6_u3 => assumption
    try simp only [Act.put, List.setIfInBounds_toArray, List.set_cons_zero, List.set_cons_succ]
    with_reducible refine wpAnyH_ready (rs := [2]) ?s1_u4 one_ne ?s2_u4
    case s1_u4 => kernel_rfl
    with_reducible refine AllReadyH.cons (o := ?s0_u4) (by simp only [List.getElem?_toArray, List.getElem?_cons_succ, List.getElem?_cons_zero]; exact rfl) (fun K hK => ?s3_u4) AllReadyH.nil
    go_simp
    refine (toCue_any t a p (by omega) (by omega) _ _ _ (h1.below hB) (h2.below hB)).mono ?_
    rintro e w7 ⟨y1, y2, rfl, n1, n2, hb⟩
    replace o1 := o1.below hb
    replace o2 := o2.below hb
    replace hB := bvia hB hb
    replace k0 := cell_on hb k0
    replace k1 := cell_on hb k1
    replace k2 := cell_on hb k2
    replace q0 := cell_on hb q0
    replace q1 := cell_on hb q1
    replace q2 := cell_on hb q2
    clear hb
    go_wp2_with fail
    with_reducible refine hK.out _ _ ?s1_u5 (fun hHeld => ?s2_u5)
    case s1_u5 => (try dsimp only); exact ⟨⟨k0, k1, k2⟩, q0, q1, q2⟩
    clear hK K
    try simp only [Act.put, List.setIfInBounds_toArray, List.set_cons_zero, List.set_cons_succ]
    with_reducible refine wpAnyH_ready (rs := [3]) ?s1_u6 one_ne ?s2_u6
    case s1_u6 => kernel_rfl
    with_reducible refine AllReadyH.cons (o := ?s0_u6) (by simp only [List.getElem?_toArray, List.getElem?_cons_succ, List.getElem?_cons_zero]; exact rfl) (fun K hK => ?s3_u6) AllReadyH.nil
    go_simp
    refine (eqCue_any t a p _ _ _ _ _ o1 o2 n1.rd n2.rd).mono ?_
    rintro e w8 ⟨rfl, hb⟩
    replace hB := bvia hB hb
    replace k0 := cell_on hb k0
    replace k1 := cell_on hb k1
    replace k2 := cell_on hb k2
    replace q0 := cell_on hb q0
    replace q1 := cell_on hb q1
    replace q2 := cell_on hb q2
    clear hb
    go_wp2_with fail
    with_reducible refine hK.out _ _ ?s1_u7 (fun hHeld => ?s2_u7)
    case s1_u7 => (try dsimp only); exact ⟨⟨k0, k1, k2⟩, q0, q1, q2⟩
    clear hK K
    try simp only [Act.put, List.setIfInBounds_toArray, List.set_cons_zero, List.set_cons_succ]
    with_reducible refine takeI2 (i := 4) (v := ?sv_u8) (oi := ?s0_u8) (by simp only [List.getElem?_toArray, List.getElem?_cons_succ, List.getElem?_cons_zero]; exact rfl) ?s1_u8 ?s2_u8 ?s3_u8 ?s4_u8 ?s5_u8 ?s6_u8 ?s7_u8
    case s1_u8 => kernel_rfl
    case s2_u8 => kernel_rfl
    case s3_u8 => kernel_rfl
    case s4_u8 => exact fun _ _ _ h => h
    case s5_u8 => exact Or.inl ⟨rfl, by intro w hSw; (try dsimp only at hSw); go_simp; try with_reducible rfl⟩
    case s6_u8 => assumption
    try simp only [Act.put, List.setIfInBounds_toArray, List.set_cons_zero, List.set_cons_succ]
    with_reducible refine wpAnyH_done ?s1_u9 ?s2_u9 _
    case s1_u9 => kernel_rfl
    go_wp2_with (fail)
    go_returns
    exact ⟨rfl, hB⟩
  · go_enter Tryd.func4, Tryd.ntmps4
    go_wp2_with (fail)
    generalize w.alloc (.cells #[.int .i64 t, .slice a1 a.length c1, .slice a2 p.length c2] 28) = w1 at HA ⊢
    obtain ⟨hB, k0, k1, k2⟩ := HA.out
    clear HA
    refine (szCue_no t a1 a2 a.length p.length c1 c2 hm1 hm2 _ (by omega) (by omega) (by omega) _).mono ?_
    rintro e w2 ⟨rfl, hb⟩
    replace hB := bvia hB hb
    go_wp2_with (fail)
    go_returns
    exact ⟨rfl, hB⟩
end Go.Proofs.YtkkcglncjdoacaaDoor
