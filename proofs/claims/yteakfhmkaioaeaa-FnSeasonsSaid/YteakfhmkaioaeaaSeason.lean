/- The walks of the season's functions, program and reference. -/
import Derived.Test.YteakfhmkaioaeaaStrict
import Derived.Test.YteakfhmkaioaeaaInts
namespace Go.Proofs.Yteakfhmkaioaeaa
open Go.ChangeShapes Go.WideShapes Go.ChangeAt Go.RowKit Go.Joins

/-- Days of a season. -/
def seasonB (zs : List Int) : Bool := decide (zs.length ≤ 60) && risesB zs 0 365
theorem specSeasonOk_any (zs : List Int) (v : Value) (w : World) (h : RdI w v zs) : Calls Try.prog 15 #[v] w fun e w' => e = .returned (.bool (seasonB zs)) ∧ Dr w w' := by
  obtain ⟨a, cap, rfl⟩ := h.shape
  have HR := Lib.hid h
  clear h
  go_enter Try.func15, Try.ntmps15
  go_wp2_with (go_at_call 46; refine (l11Rising_any zs _ _ _ HR.out).mono ?_; rintro e w1 ⟨rfl, hd⟩)
  · go_ret
    have hl : zs.length ≤ 60 := by omega
    exact ⟨ret_bool (by simp [seasonB, hl]), hd⟩
  · go_ret
    have hl : ¬ zs.length ≤ 60 := by omega
    exact ⟨ret_bool (by simp [seasonB, hl]), Dr.refl _⟩
theorem implSeasonOk_any (zs : List Int) (v : Value) (w : World) (h : RdI w v zs) : Calls Try.prog 17 #[v] w fun e w' => e = .returned (.bool (seasonB zs)) ∧ Dr w w' := by
  obtain ⟨a, cap, rfl⟩ := h.shape
  have HR := Lib.hid h
  clear h
  go_enter Try.func17, Try.ntmps17
  go_wp2_with (go_at_call 47; refine (isStrict_any zs _ _ _ _ HR.out).mono ?_; rintro e w1 ⟨rfl, hd⟩)
  · go_ret
    have hl : zs.length ≤ 60 := by omega
    exact ⟨ret_bool (by simp [seasonB, hl]), hd⟩
  · go_ret
    have hl : ¬ zs.length ≤ 60 := by omega
    exact ⟨ret_bool (by simp [seasonB, hl]), Dr.refl _⟩

theorem walkFnExactSeasonOk (zs : List Int) (vzs : Value) (w : World) (hzs : RdI w vzs zs) : Calls Try.prog 3 #[vzs] w fun e w' => e = .returned (.bool true) ∧ Below w.heap.size w w' := by
  obtain ⟨azs, capzs, rfl⟩ := hzs.shape
  by_cases hlzs : zs.length ≤ 1048576
  · skip
    have hB := Below.refl w.heap.size w
    go_enter Try.func3, Try.ntmps3
    go_wp2_with (fail)
    refine (toIntS_any zs hlzs _ _ (hzs.below hB)).mono ?_
    rintro e w1 ⟨ut0, rfl, ot0, hb⟩
    have bt0 := hB.size
    replace hB := bvia hB hb
    clear hb
    go_wp2_with (fail)
    refine (specSeasonOk_any zs _ _ ot0.rd).mono ?_
    rintro e w2 ⟨rfl, hd⟩
    have hb := hd.below; clear hd
    replace ot0 := ot0.below hb
    replace hB := bvia hB hb
    clear hb
    clear ot0
    go_wp2_with (fail)
    refine (toIntS_any zs hlzs _ _ (hzs.below hB)).mono ?_
    rintro e w3 ⟨ux0, rfl, ox0, hb⟩
    have bx0 := hB.size
    replace hB := bvia hB hb
    clear hb
    go_wp2_with (fail)
    refine (implSeasonOk_any zs _ _ ox0.rd).mono ?_
    rintro e w4 ⟨rfl, hd⟩
    have hb := hd.below; clear hd
    replace ox0 := ox0.below hb
    replace hB := bvia hB hb
    clear hb
    go_wp2_with (fail)
    refine (toIntS_any zs hlzs _ _ (hzs.below hB)).mono ?_
    rintro e w5 ⟨uy0, rfl, oy0, hb⟩
    have dx0_y0 := ox0.dis oy0 (Nat.le_refl _)
    have dy0_x0 := ox0.dis' oy0 (Nat.le_refl _)
    have by0 := hB.size
    replace ox0 := ox0.below hb
    replace hB := bvia hB hb
    clear hb
    go_wp2_with (fail)
    refine (eqIntS_any zs _ _ _ ox0.rd oy0.rd).mono ?_
    rintro e w6 ⟨rfl, hd⟩
    have hb := hd.below; clear hd
    replace ox0 := ox0.below hb
    replace oy0 := oy0.below hb
    replace hB := bvia hB hb
    clear hb
    clear oy0
    go_wp2_with (fail)
    go_returns
    exact ⟨rfl, hB⟩
  · go_enter Try.func3, Try.ntmps3
    go_wp2_with (fail)
    go_returns
    exact ⟨rfl, Below.refl _ _⟩
end Go.Proofs.Yteakfhmkaioaeaa
