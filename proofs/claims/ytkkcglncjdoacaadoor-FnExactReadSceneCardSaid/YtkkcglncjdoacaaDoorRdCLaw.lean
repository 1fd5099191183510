/- The walk of FnExactReadCue. -/
import Derived.Test.YtkkcglncjdoacaaDoorMarkC
import Derived.Test.YtkkcglncjdoacaaDoorRdLaw
namespace Go.Proofs.YtkkcglncjdoacaaDoor
open Go.ChangeShapes Go.WideShapes Go.ChangeAt Go.RowKit Go.Joins
set_option linter.unusedSimpArgs false
set_option linter.unusedVariables false
set_option maxRecDepth 20000

theorem rc_lens (l : List UInt8) : (rcV l).2.1.length ≤ 20 ∧ (rcV l).2.2.length ≤ 20 := by
  unfold rcV
  cases h : rcF l with
  | none => simp
  | some z =>
    unfold rcF at h
    split at h
    · split at h
      · cases h
        exact ⟨rdV_len _, rdV_len _⟩
      · cases h
    · cases h
set_option maxHeartbeats 1000000 in
theorem walkFnExactReadCue (s : ByteArray) (w : World) (ht : Pow10 w) (he : HasErr w) (hm : HasMax w) :
    Calls Tryd.prog 8 #[.string s] w fun e w' => e = .returned (.bool true) ∧ Below w.heap.size w w' := by
  have hB := Below.refl w.heap.size w
  by_cases hl : s.size ≤ 1048576
  · have hl' : ¬ (1048576 : Int) < (s.size : Int) := by omega
    have HS := Lib.hid (fun w' h1 => specReadCue_any s hl w' h1)
    have HI := Lib.hid (fun w' h1 h2 h3 => implReadCue_any s hl w' h1 h2 h3)
    have hR20 := rc_lens s.data.toList
    generalize rcV s.data.toList = R at HS HI hR20
    generalize rcB s.data.toList = b at HS HI
    obtain ⟨t, a, p⟩ := R
    dsimp only at HS HI hR20
    have HT := Lib.hid (And.intro ht (And.intro he hm))
    clear ht he hm
    have hbb : (b != b) = false := by cases b <;> rfl
    go_enter Tryd.func8, Tryd.ntmps8
    go_wp2_with (fail)
    refine (HS.out _ (tabIs_below HT.out.1 hB)).mono ?_
    rintro e w1 ⟨v1, v2, rfl, ow1, ow2, _, hb⟩
    replace hB := bvia hB hb
    clear hb
    obtain ⟨x1, y1, rfl⟩ := ow1.rd.shape
    obtain ⟨x2, y2, rfl⟩ := ow2.rd.shape
    have z1 := hB.size
    have hb := below_alloc1 w1 (.cells #[.int .i64 t, .slice x1 a.length y1, .slice x2 p.length y2] 31)
    have k10 : (w1.alloc (.cells #[.int .i64 t, .slice x1 a.length y1, .slice x2 p.length y2] 31)).cell? ⟨w1.heap.size, 0, none⟩ = some (.int .i64 t) := by simp [go_sem]
    have k11 : (w1.alloc (.cells #[.int .i64 t, .slice x1 a.length y1, .slice x2 p.length y2] 31)).cell? ⟨w1.heap.size, 1, none⟩ = some (.slice x1 a.length y1) := by simp [go_sem]
    have k12 : (w1.alloc (.cells #[.int .i64 t, .slice x1 a.length y1, .slice x2 p.length y2] 31)).cell? ⟨w1.heap.size, 2, none⟩ = some (.slice x2 p.length y2) := by simp [go_sem]
    replace ow1 := ow1.below hb
    replace ow2 := ow2.below hb
    replace hB := bvia hB hb
    clear hb
    go_wp2_with (fail)
    refine (HI.out _ (tabIs_below HT.out.1 hB) (HasErr.below HT.out.2.1 hB) (HasMax.below HT.out.2.2 hB)).mono ?_
    rintro e w2 ⟨v3, v4, rfl, og1, og2, dg, hb⟩
    have hs1 : (w1.alloc (.cells #[.int .i64 t, .slice x1 a.length y1, .slice x2 p.length y2] 31)).heap.size = w1.heap.size + 1 := by simp
    have dw1 : Dis (.slice x1 a.length y1) v3 := dis_lt (C := w1.heap.size + 1) (fun q hq => by have := (ow1.lt q hq).2; omega) (fun q hq => by have := (og1.lt q hq).1; omega)
    have dw2 : Dis (.slice x1 a.length y1) v4 := dis_lt (C := w1.heap.size + 1) (fun q hq => by have := (ow1.lt q hq).2; omega) (fun q hq => by have := (og2.lt q hq).1; omega)
    have dw3 : Dis (.slice x2 p.length y2) v3 := dis_lt (C := w1.heap.size + 1) (fun q hq => by have := (ow2.lt q hq).2; omega) (fun q hq => by have := (og1.lt q hq).1; omega)
    have dw4 : Dis (.slice x2 p.length y2) v4 := dis_lt (C := w1.heap.size + 1) (fun q hq => by have := (ow2.lt q hq).2; omega) (fun q hq => by have := (og2.lt q hq).1; omega)
    have n1 : some w1.heap.size ≠ v3.ownBlock := fun e => by have := (og1.lt _ e.symm).1; omega
    have n2 : some w1.heap.size ≠ v4.ownBlock := fun e => by have := (og2.lt _ e.symm).1; omega
    replace og1 := og1.base (show w1.heap.size + 1 ≤ _ by rw [hs1]; exact Nat.le_refl _)
    replace og2 := og2.base (show w1.heap.size + 1 ≤ _ by rw [hs1]; exact Nat.le_refl _)
    have z2 := hb.size
    rw [hs1] at z2
    replace ow1 := ow1.below hb
    replace ow2 := ow2.below hb
    replace k10 := cell_on hb k10
    replace k11 := cell_on hb k11
    replace k12 := cell_on hb k12
    replace hB := bvia hB hb
    clear hb
    obtain ⟨x3, y3, rfl⟩ := og1.rd.shape
    obtain ⟨x4, y4, rfl⟩ := og2.rd.shape
    have n3 : some w2.heap.size ≠ (Value.slice x3 a.length y3).ownBlock := fun e => by have := (og1.lt _ e.symm).2; omega
    have n4 : some w2.heap.size ≠ (Value.slice x4 p.length y4).ownBlock := fun e => by have := (og2.lt _ e.symm).2; omega
    have hb := below_alloc1 w2 (.cells #[.int .i64 t, .slice x3 a.length y3, .slice x4 p.length y4] 31)
    have k20 : (w2.alloc (.cells #[.int .i64 t, .slice x3 a.length y3, .slice x4 p.length y4] 31)).cell? ⟨w2.heap.size, 0, none⟩ = some (.int .i64 t) := by simp [go_sem]
    have k21 : (w2.alloc (.cells #[.int .i64 t, .slice x3 a.length y3, .slice x4 p.length y4] 31)).cell? ⟨w2.heap.size, 1, none⟩ = some (.slice x3 a.length y3) := by simp [go_sem]
    have k22 : (w2.alloc (.cells #[.int .i64 t, .slice x3 a.length y3, .slice x4 p.length y4] 31)).cell? ⟨w2.heap.size, 2, none⟩ = some (.slice x4 p.length y4) := by simp [go_sem]
    replace ow1 := ow1.below hb
    replace ow2 := ow2.below hb
    replace og1 := og1.below hb
    replace og2 := og2.below hb
    replace k10 := cell_on hb k10
    replace k11 := cell_on hb k11
    replace k12 := cell_on hb k12
    replace hB := bvia hB hb
    clear hb
    go_wp2_with (fail)
    refine (eqCue_any t a p _ _ _ _ _ og1.rd og2.rd ow1.rd ow2.rd).mono ?_
    rintro e w3 ⟨rfl, hb⟩
    replace ow1 := ow1.below hb
    replace ow2 := ow2.below hb
    replace og1 := og1.below hb
    replace og2 := og2.below hb
    replace k10 := cell_on hb k10
    replace k11 := cell_on hb k11
    replace k12 := cell_on hb k12
    replace k20 := cell_on hb k20
    replace k21 := cell_on hb k21
    replace k22 := cell_on hb k22
    replace hB := bvia hB hb
    clear hb
    go_wp2_with (fail)
    refine (markCue_any t 1 a p (by omega) (by omega) _ _ _ _ og1 og2 dg).mono ?_
    rintro e w5 ⟨rfl, om1, om2, w4, hg1, hg2⟩
    have hb := below_alloc1 w3 (.cells #[.int .i64 t, .slice x3 a.length y3, .slice x4 p.length y4] 31)
    replace og1 := og1.below hb
    replace og2 := og2.below hb
    replace ow1 := ow1.below hb
    replace ow2 := ow2.below hb
    replace k10 := cell_on hb k10
    replace k11 := cell_on hb k11
    replace k12 := cell_on hb k12
    replace k20 := cell_on hb k20
    replace k21 := cell_on hb k21
    replace k22 := cell_on hb k22
    replace hB := bvia hB hb
    replace ow1 := ow1.kept hg1 dw1
    replace ow2 := ow2.kept hg1 dw3
    replace k10 := hg1.cell k10 n1
    replace k11 := hg1.cell k11 n1
    replace k12 := hg1.cell k12 n1
    replace k20 := hg1.cell k20 n3
    replace k21 := hg1.cell k21 n3
    replace k22 := hg1.cell k22 n3
    have hB0 : Below w.heap.size w w4 := below_grown hB hg1 (fun q hq => ((og1.lt q hq).1)) (by omega)
    replace og2 := og2.kept hg1 dg.symm
    replace hB := hB0
    clear hB0
    replace ow1 := ow1.kept hg2 dw2
    replace ow2 := ow2.kept hg2 dw4
    replace k10 := hg2.cell k10 n2
    replace k11 := hg2.cell k11 n2
    replace k12 := hg2.cell k12 n2
    replace k20 := hg2.cell k20 n4
    replace k21 := hg2.cell k21 n4
    replace k22 := hg2.cell k22 n4
    have hB1 : Below w.heap.size w w5 := below_grown hB hg2 (fun q hq => ((og2.lt q hq).1)) (by omega)
    replace hB := hB1
    clear hB1
    clear hb hg1 hg2 og1 og2 dw1 dw2 dw3 dw4 n1 n2 n3 n4
    go_wp2_with (fail)
    refine (heldCue_any t 1 a.length p.length (by omega) (by omega) _ _ _ om1.rd om2.rd).mono ?_
    rintro e w6 ⟨rfl, hb⟩
    replace ow1 := ow1.below hb
    replace ow2 := ow2.below hb
    replace om1 := om1.below hb
    replace om2 := om2.below hb
    replace k10 := cell_on hb k10
    replace k11 := cell_on hb k11
    replace k12 := cell_on hb k12
    replace k20 := cell_on hb k20
    replace k21 := cell_on hb k21
    replace k22 := cell_on hb k22
    replace hB := bvia hB hb
    clear hb
    have q1 : ¬ ((1 : Int) + (a.length : Int) + (p.length : Int)) < 0 := by omega
    go_wp2_with (fail)
    refine (HI.out _ (tabIs_below HT.out.1 hB) (HasErr.below HT.out.2.1 hB) (HasMax.below HT.out.2.2 hB)).mono ?_
    rintro e w7 ⟨v5, v6, rfl, oh1, oh2, _, hb⟩
    replace ow1 := ow1.below hb
    replace ow2 := ow2.below hb
    replace om1 := om1.below hb
    replace om2 := om2.below hb
    replace k10 := cell_on hb k10
    replace k11 := cell_on hb k11
    replace k12 := cell_on hb k12
    replace k20 := cell_on hb k20
    replace k21 := cell_on hb k21
    replace k22 := cell_on hb k22
    replace hB := bvia hB hb
    clear hb
    obtain ⟨x5, y5, rfl⟩ := oh1.rd.shape
    obtain ⟨x6, y6, rfl⟩ := oh2.rd.shape
    have hb := below_alloc1 w7 (.cells #[.int .i64 t, .slice x5 a.length y5, .slice x6 p.length y6] 31)
    have k30 : (w7.alloc (.cells #[.int .i64 t, .slice x5 a.length y5, .slice x6 p.length y6] 31)).cell? ⟨w7.heap.size, 0, none⟩ = some (.int .i64 t) := by simp [go_sem]
    have k31 : (w7.alloc (.cells #[.int .i64 t, .slice x5 a.length y5, .slice x6 p.length y6] 31)).cell? ⟨w7.heap.size, 1, none⟩ = some (.slice x5 a.length y5) := by simp [go_sem]
    have k32 : (w7.alloc (.cells #[.int .i64 t, .slice x5 a.length y5, .slice x6 p.length y6] 31)).cell? ⟨w7.heap.size, 2, none⟩ = some (.slice x6 p.length y6) := by simp [go_sem]
    replace ow1 := ow1.below hb
    replace ow2 := ow2.below hb
    replace om1 := om1.below hb
    replace om2 := om2.below hb
    replace oh1 := oh1.below hb
    replace oh2 := oh2.below hb
    replace k10 := cell_on hb k10
    replace k11 := cell_on hb k11
    replace k12 := cell_on hb k12
    replace k20 := cell_on hb k20
    replace k21 := cell_on hb k21
    replace k22 := cell_on hb k22
    replace hB := bvia hB hb
    clear hb
    go_wp2_with (fail)
    refine (eqCue_any t a p _ _ _ _ _ oh1.rd oh2.rd ow1.rd ow2.rd).mono ?_
    rintro e w8 ⟨rfl, hb⟩
    replace ow1 := ow1.below hb
    replace ow2 := ow2.below hb
    replace om1 := om1.below hb
    replace om2 := om2.below hb
    replace oh1 := oh1.below hb
    replace oh2 := oh2.below hb
    replace k10 := cell_on hb k10
    replace k11 := cell_on hb k11
    replace k12 := cell_on hb k12
    replace k20 := cell_on hb k20
    replace k21 := cell_on hb k21
    replace k22 := cell_on hb k22
    replace k30 := cell_on hb k30
    replace k31 := cell_on hb k31
    replace k32 := cell_on hb k32
    replace hB := bvia hB hb
    clear hb
    clear oh1 oh2 ow1 ow2 k30 k31 k32 k10 k11 k12
    go_wp2_with (fail)
    refine (heldCue_any t 1 a.length p.length (by omega) (by omega) _ _ _ om1.rd om2.rd).mono ?_
    rintro e w9 ⟨rfl, hb⟩
    replace hB := bvia hB hb
    clear hb
    go_wp2_with (fail)
    go_returns
    exact ⟨rfl, hB⟩
  · have hl' : (1048576 : Int) < (s.size : Int) := by omega
    go_enter Tryd.func8, Tryd.ntmps8
    go_wp2_with (fail)
    go_returns
    exact ⟨rfl, hB⟩
end Go.Proofs.YtkkcglncjdoacaaDoor
