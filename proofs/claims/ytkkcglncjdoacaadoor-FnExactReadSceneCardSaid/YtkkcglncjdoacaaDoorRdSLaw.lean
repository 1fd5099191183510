/- The walk of FnExactReadScene. -/
import Derived.Test.YtkkcglncjdoacaaDoorMarkCS
import Derived.Test.YtkkcglncjdoacaaDoorRdCLaw
import Derived.Test.YtkkcglncjdoacaaDoorRdS
import Derived.Test.YtkkcglncjdoacaaDoorRdSI
namespace Go.Proofs.YtkkcglncjdoacaaDoor
open Go.ChangeShapes Go.WideShapes Go.ChangeAt Go.RowKit Go.Joins
set_option linter.unusedSimpArgs false
set_option linter.unusedVariables false
set_option maxRecDepth 20000

theorem allC_mem : ∀ {ps : List (List UInt8)} {zs : List CueV}, allC ps = some zs → ∀ z ∈ zs, z.2.1.length ≤ 20 ∧ z.2.2.length ≤ 20 := by
  intro ps
  induction ps with
  | nil => intro ns h; cases h; simp
  | cons p r ih =>
    intro ns h
    unfold allC at h
    cases hp : rcF p with
    | none => rw [hp] at h; cases h
    | some n =>
      rw [hp] at h
      simp only at h
      cases hr : allC r with
      | none => rw [hr] at h; cases h
      | some ms =>
        rw [hr] at h
        simp only [Option.map_some, Option.some.injEq] at h
        subst h
        intro z hz
        rcases List.mem_cons.1 hz with rfl | hz
        · have := rc_lens p
          rw [(rc_some hp).1] at this
          exact this
        · exact ih hr z hz
theorem totM_le : ∀ {zs : List CueV}, (∀ z ∈ zs, z.2.1.length ≤ 20 ∧ z.2.2.length ≤ 20) → totM zs ≤ 41 * zs.length := by
  intro zs
  induction zs with
  | nil => intro _; simp [totM]
  | cons z r ih =>
    intro h
    have h1 := ih fun y hy => h y (by simp [hy])
    have h2 := h z (by simp)
    simp only [totM, List.length_cons]
    omega
theorem rs_tot (l : List UInt8) : totM (rsV l) ≤ 1000 := by
  unfold rsV
  cases h : rsF l with
  | none => simp [totM]
  | some zs =>
    unfold rsF at h
    split at h
    · rename_i ys ha
      split at h
      · rename_i hb
        cases h
        have h1 := totM_le (allC_mem ha)
        have h2 := cuesB_len hb
        simp only [Option.getD_some]
        omega
      · cases h
    · cases h
set_option maxHeartbeats 1000000 in
theorem walkFnExactReadScene (s : ByteArray) (w : World) (ht : Pow10 w) (he : HasErr w) (hm : HasMax w) :
    Calls Tryd.prog 9 #[.string s] w fun e w' => e = .returned (.bool true) ∧ Below w.heap.size w w' := by
  have hB := Below.refl w.heap.size w
  by_cases hl : s.size ≤ 1048576
  · have hl' : ¬ (1048576 : Int) < (s.size : Int) := by omega
    have HS := Lib.hid (fun w' h1 => specReadScene_any s hl w' h1)
    have HI := Lib.hid (fun w' h1 h2 h3 => implReadScene_any s hl w' h1 h2 h3)
    have hR := rs_tot s.data.toList
    generalize rsV s.data.toList = R at HS HI hR
    generalize rsB s.data.toList = b at HS HI
    have HT := Lib.hid (And.intro ht (And.intro he hm))
    clear ht he hm hB
    have hbb : (b != b) = false := by cases b <;> rfl
    go_enter Tryd.func9, Tryd.ntmps9
    go_wp2_with (fail)
    refine (HS.out _ HT.out.1).mono ?_
    rintro e w1 ⟨uw, rfl, ow, hB⟩
    have HW := Lib.hid (And.intro ow hB)
    clear ow hB
    go_wp2_with (fail)
    refine (HI.out _ (tabIs_below HT.out.1 HW.out.2) (HasErr.below HT.out.2.1 HW.out.2) (HasMax.below HT.out.2.2 HW.out.2)).mono ?_
    rintro e w2 ⟨ug, rfl, og, hX⟩
    go_wp2_with (fail)
    refine (eqCueS_any R _ _ _ og.rd (HW.out.1.below hX).rd).mono ?_
    rintro e w3 ⟨rfl, hb⟩
    replace og := og.below hb
    replace hX := bvia hX hb
    clear hb
    go_wp2_with (fail)
    refine (markCueS_any R 1 (by omega) (by omega) _ _ _ _ og).mono ?_
    rintro e w4 ⟨rfl, om, hb⟩
    replace hX := hX.trans hb
    clear hb og
    go_wp2_with (fail)
    refine (heldCueS_any R 1 (by omega) (by omega) _ _ om.rd).mono ?_
    rintro e w5 ⟨rfl, rfl⟩
    have q1 : ¬ ((1 : Int) + (totM R : Int)) < 0 := by omega
    go_wp2_with (fail)
    refine (HI.out _ (tabIs_below HT.out.1 (bvia HW.out.2 hX)) (HasErr.below HT.out.2.1 (bvia HW.out.2 hX)) (HasMax.below HT.out.2.2 (bvia HW.out.2 hX))).mono ?_
    rintro e w6 ⟨uh, rfl, oh, hb⟩
    replace om := om.below hb
    replace hX := bvia hX hb
    clear hb
    go_wp2_with (fail)
    refine (eqCueS_any R _ _ _ oh.rd (HW.out.1.below hX).rd).mono ?_
    rintro e w7 ⟨rfl, hb⟩
    replace om := om.below hb
    replace hX := bvia hX hb
    clear hb oh
    go_wp2_with (fail)
    refine (heldCueS_any R 1 (by omega) (by omega) _ _ om.rd).mono ?_
    rintro e w8 ⟨rfl, rfl⟩
    have hB := bvia HW.out.2 hX
    clear om hX
    go_wp2_with (fail)
    go_returns
    exact ⟨rfl, hB⟩
  · have hl' : (1048576 : Int) < (s.size : Int) := by omega
    go_enter Tryd.func9, Tryd.ntmps9
    go_wp2_with (fail)
    go_returns
    exact ⟨rfl, hB⟩
end Go.Proofs.YtkkcglncjdoacaaDoor
