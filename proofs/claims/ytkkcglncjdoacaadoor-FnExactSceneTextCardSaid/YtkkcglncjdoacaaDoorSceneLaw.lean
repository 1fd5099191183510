/- The walk of FnExactSceneText. -/
import Derived.Test.YtkkcglncjdoacaaDoorScene
import Derived.Test.YtkkcglncjdoacaaDoorLaid
namespace Go.Proofs.YtkkcglncjdoacaaDoor
open Go.ChangeShapes Go.WideShapes Go.ChangeAt Go.RowKit Go.Joins
set_option linter.unusedSimpArgs false
set_option linter.unusedVariables false
set_option maxRecDepth 20000

theorem walkFnExactSceneText (zs : List CueV) (v : Value) (w : World) (h : RdCue w v zs) (ht : Pow10 w) :
    Calls Tryd.prog 5 #[v] w fun e w' => e = .returned (.bool true) ∧ Below w.heap.size w w' := by
  obtain ⟨a, cap, rfl, hm⟩ := h.shape
  have hB := Below.refl w.heap.size w
  obtain ⟨s, hs⟩ : ∃ s : ByteArray, (⟨(sceneL zs).toArray⟩ : ByteArray) = s := ⟨_, rfl⟩
  have HS := Lib.hid (fun u w' h1 h => specSceneText_any zs u w' h1 h)
  have HI := Lib.hid (fun u w' h1 h => implSceneText_any zs u w' h1 h)
  rw [hs] at HS HI
  have HT := Lib.hid ht
  clear hs ht
  have HZ := Lib.hid (szCueS_any zs 1048576 (by omega) (by omega) (.slice a zs.length cap) w h)
  by_cases hl : (zs.length : Int) + totC zs ≤ 1048576
  · rw [if_pos hl] at HZ
    have hln : zs.length + totC zs ≤ 1048576 := by omega
    go_enter Tryd.func5, Tryd.ntmps5
    go_wp2_with (fail)
    refine HZ.out.mono ?_
    rintro e w1 ⟨rfl, hb⟩
    replace hB := bvia hB hb
    clear hb HZ
    go_wp2_with (fail)
    refine (toCueS_any zs hln _ _ (h.below hB)).mono ?_
    rintro e w2 ⟨u2, rfl, o2, hb⟩
    replace hB := bvia hB hb
    clear hb
    go_wp2_with (fail)
    refine (HS.out _ _ o2 (tabIs_below HT.out hB)).mono ?_
    rintro e w3 ⟨rfl, hb⟩
    replace hB := bvia hB hb
    clear hb o2
    go_wp2_with (fail)
    refine (toCueS_any zs hln _ _ (h.below hB)).mono ?_
    rintro e w4 ⟨u4, rfl, o4, hb⟩
    replace hB := bvia hB hb
    clear hb
    go_wp2_with (fail)
    refine (HI.out _ _ o4 (tabIs_below HT.out hB)).mono ?_
    rintro e w5 ⟨rfl, hb⟩
    replace hB := bvia hB hb
    replace o4 := o4.below hb
    clear hb
    go_wp2_with (fail)
    refine (toCueS_any zs hln _ _ (h.below hB)).mono ?_
    rintro e w6 ⟨u6, rfl, o6, hb⟩
    replace hB := bvia hB hb
    replace o4 := o4.below hb
    clear hb
    go_wp2_with (fail)
    refine (eqCueS_any zs _ _ _ o4 o6).mono ?_
    rintro e w7 ⟨rfl, hb⟩
    replace hB := bvia hB hb
    clear hb
    go_wp2_with (fail)
    go_returns
    exact ⟨rfl, hB⟩
  · rw [if_neg hl] at HZ
    go_enter Tryd.func5, Tryd.ntmps5
    go_wp2_with (fail)
    refine HZ.out.mono ?_
    rintro e w1 ⟨rfl, hb⟩
    go_wp2_with (fail)
    go_returns
    exact ⟨rfl, bvia hB hb⟩
end Go.Proofs.YtkkcglncjdoacaaDoor
