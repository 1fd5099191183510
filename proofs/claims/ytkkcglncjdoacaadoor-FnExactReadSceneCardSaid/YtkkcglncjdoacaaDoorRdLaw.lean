/- The walk of FnExactReadNumbers. -/
import Derived.Test.YtkkcglncjdoacaaDoorRdN
import Derived.Test.YtkkcglncjdoacaaDoorInts
namespace Go.Proofs.YtkkcglncjdoacaaDoor
open Go.ChangeShapes Go.WideShapes Go.ChangeAt Go.RowKit Go.Joins
set_option linter.unusedSimpArgs false
set_option linter.unusedVariables false
set_option maxRecDepth 20000

theorem rdV_len (l : List UInt8) : (rdV l).length ≤ 20 := by
  unfold rdV
  cases h : rdF l with
  | none => simp
  | some ns =>
    unfold rdF at h
    split at h
    · cases h; simp
    · split at h
      · rename_i h20
        have := (allF_back h).1
        simp only [Option.getD_some]
        omega
      · cases h
theorem walkFnExactReadNumbers (s : ByteArray) (w : World) (ht : Pow10 w) (he : HasErr w) (hm : HasMax w) :
    Calls Tryd.prog 6 #[.string s] w fun e w' => e = .returned (.bool true) ∧ Below w.heap.size w w' := by
  have hB := Below.refl w.heap.size w
  by_cases hl : s.size ≤ 1048576
  · have hl' : ¬ (1048576 : Int) < (s.size : Int) := by omega
    have HS := Lib.hid (fun w' => specReadNumbers_any s hl w')
    have HI := Lib.hid (fun w' h1 h2 h3 => implReadNumbers_any s hl w' h1 h2 h3)
    have hR20 := rdV_len s.data.toList
    generalize rdV s.data.toList = R at HS HI hR20
    generalize rdB s.data.toList = b at HS HI
    have HT := Lib.hid (And.intro ht (And.intro he hm))
    clear ht he hm
    go_enter Tryd.func6, Tryd.ntmps6
    go_wp2_with (fail)
    refine (HS.out _).mono ?_
    rintro e w1 ⟨uw, rfl, ow, hb⟩
    replace hB := bvia hB hb
    clear hb
    go_wp2_with (fail)
    refine (HI.out _ (tabIs_below HT.out.1 hB) (HasErr.below HT.out.2.1 hB) (HasMax.below HT.out.2.2 hB)).mono ?_
    rintro e w2 ⟨ug, rfl, og, hb⟩
    have dwg := dis_of ow.lt og.lt (Nat.le_refl _)
    have bg := hB.size
    replace ow := ow.below hb
    replace hB := bvia hB hb
    clear hb
    go_wp2_with (fail)
    refine (eqIntS_any R _ _ _ og.rd ow.rd).mono ?_
    rintro e w3 ⟨rfl, hd⟩
    have hb := hd.below
    replace ow := ow.below hb
    replace og := og.below hb
    replace hB := bvia hB hb
    clear hb hd
    have hbb : (b != b) = false := by cases b <;> rfl
    go_wp2_with (fail)
    refine (markIntS_any R 1 (by omega) (by omega) _ _ _ og).mono ?_
    rintro e w4 ⟨rfl, om, hg⟩
    replace ow := ow.kept hg dwg
    replace hB := og.grown_below hB bg hg
    clear hg og
    go_wp2_with (fail)
    refine (heldIntS_any R.length 1 (by omega) (by omega) _ _ om.rd).mono ?_
    rintro e w5 ⟨rfl, rfl⟩
    go_wp2_with (fail)
    refine (HI.out _ (tabIs_below HT.out.1 hB) (HasErr.below HT.out.2.1 hB) (HasMax.below HT.out.2.2 hB)).mono ?_
    rintro e w6 ⟨uh, rfl, oh, hb⟩
    replace ow := ow.below hb
    replace om := om.below hb
    replace hB := bvia hB hb
    clear hb
    go_wp2_with (fail)
    refine (eqIntS_any R _ _ _ oh.rd ow.rd).mono ?_
    rintro e w7 ⟨rfl, hd⟩
    have hb := hd.below
    replace om := om.below hb
    replace hB := bvia hB hb
    clear hb hd ow oh
    go_wp2_with (fail)
    refine (heldIntS_any R.length 1 (by omega) (by omega) _ _ om.rd).mono ?_
    rintro e w8 ⟨rfl, rfl⟩
    go_wp2_with (fail)
    go_returns
    exact ⟨rfl, hB⟩
  · have hl' : (1048576 : Int) < (s.size : Int) := by omega
    go_enter Tryd.func6, Tryd.ntmps6
    go_wp2_with (fail)
    go_returns
    exact ⟨rfl, hB⟩
end Go.Proofs.YtkkcglncjdoacaaDoor
