/- The walk of FnExactNumbersText. -/
import Derived.Test.YtkkcglncjdoacaaDoorNums
import Derived.Test.YtkkcglncjdoacaaDoorInts
import Derived.Test.YtkkcglncjdoacaaDoorLaid
namespace Go.Proofs.YtkkcglncjdoacaaDoor
open Go.ChangeShapes Go.WideShapes Go.ChangeAt Go.RowKit Go.Joins
set_option linter.unusedVariables false
set_option maxRecDepth 20000

theorem walkFnExactNumbersText (zs : List Int) (hz : ∀ z ∈ zs, -9223372036854775808 ≤ z ∧ z ≤ 9223372036854775807) (v : Value) (w : World) (h : RdI w v zs) (ht : Pow10 w) :
    Calls Tryd.prog 3 #[v] w fun e w' => e = .returned (.bool true) ∧ Below w.heap.size w w' := by
  obtain ⟨a, cap, rfl⟩ := h.shape
  have hB := Below.refl w.heap.size w
  obtain ⟨s, hs⟩ : ∃ s : ByteArray, (⟨(numsL zs).toArray⟩ : ByteArray) = s := ⟨_, rfl⟩
  have HS := Lib.hid (fun u w' h => specNumbersText_any zs hz u w' h)
  have HI := Lib.hid (fun u w' h t => implNumbersText_any zs hz u w' h t)
  rw [hs] at HS HI
  have HT := Lib.hid ht
  clear hs ht hz
  by_cases hl : zs.length ≤ 1048576
  · go_enter Tryd.func3, Tryd.ntmps3
    go_wp2_with (fail)
    refine (toIntS_any zs hl _ _ h).mono ?_
    rintro e w1 ⟨u1, rfl, o1, hb⟩
    replace hB := bvia hB hb
    clear hb
    go_wp2_with (fail)
    refine (HS.out _ _ o1.rd).mono ?_
    rintro e w2 ⟨rfl, hb⟩
    replace hB := bvia hB hb
    clear hb o1
    go_wp2_with (fail)
    refine (toIntS_any zs hl _ _ (h.below hB)).mono ?_
    rintro e w3 ⟨u3, rfl, o3, hb⟩
    replace hB := bvia hB hb
    clear hb
    go_wp2_with (fail)
    refine (HI.out _ _ o3.rd (tabIs_below HT.out hB)).mono ?_
    rintro e w4 ⟨rfl, hb⟩
    replace hB := bvia hB hb
    replace o3 := o3.below hb
    clear hb
    go_wp2_with (fail)
    refine (toIntS_any zs hl _ _ (h.below hB)).mono ?_
    rintro e w5 ⟨u5, rfl, o5, hb⟩
    replace hB := bvia hB hb
    replace o3 := o3.below hb
    clear hb
    go_wp2_with (fail)
    refine (eqIntS_any zs _ _ _ o3.rd o5.rd).mono ?_
    rintro e w6 ⟨rfl, hd⟩
    have hb := hd.below
    replace hB := bvia hB hb
    clear hb hd
    go_wp2_with (fail)
    go_returns
    exact ⟨rfl, hB⟩
  · go_enter Tryd.func3, Tryd.ntmps3
    go_wp2_with (fail)
    go_returns
    exact ⟨rfl, hB⟩
end Go.Proofs.YtkkcglncjdoacaaDoor
