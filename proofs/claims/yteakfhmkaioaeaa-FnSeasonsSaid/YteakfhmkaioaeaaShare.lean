/- The walks of ShareEqually, WithoutString and copyOf. -/
import Derived.Test.YteakfhmkaioaeaaApp
import Derived.Test.YteakfhmkaioaeaaInts
namespace Go.Proofs.Yteakfhmkaioaeaa
open Go.ChangeShapes Go.WideShapes Go.ChangeAt Go.RowKit Go.Joins

theorem copyOf_any (zs : List Int) (hn : zs.length ≤ 1048576) (v : Value) (w : World) (h : RdI w v zs) :
    Calls Try.prog 49 #[v] w fun e w' => ∃ u, e = .returned u ∧ OwI w' w.heap.size u zs ∧ Below w.heap.size w w' := by
  have hB := below_alloc1 w (.cells #[] 3)
  have hr := h.below hB
  go_enter Try.func49, Try.ntmps49
  go_wp2_with (at_builtin; refine wpList_appI rfl (.tmp 3) (.tmp 4) rfl _ w.heap.size _ [] rfl (OwI.empty w _ (Nat.le_refl _)) _ zs rfl hr (by simp; omega) (by simp) ?_; intro v1 w1 ho hg _)
  go_ret
  exact ⟨_, rfl, ho, (OwI.empty w _ (Nat.le_refl _)).grown_below hB (Nat.le_refl _) hg⟩

def withoutString (zs : List Int) (j : Int) : List Int := if inB j 0 (zs.length - 1) = true then zs.set j.toNat (-1) else zs
theorem withoutString_length (zs : List Int) (j : Int) : (withoutString zs j).length = zs.length := by
  unfold withoutString; split <;> simp
theorem implWithoutString_any (zs : List Int) (j : Int) (hn : zs.length ≤ 1048576) (v : Value) (w : World) (h : RdI w v zs) :
    Calls Try.prog 20 #[v, .int .i64 j] w fun e w' => ∃ u, e = .returned u ∧ OwI w' w.heap.size u (withoutString zs j) ∧ Below w.heap.size w w' := by
  obtain ⟨a, cap, rfl⟩ := h.shape
  by_cases hg : inB j 0 (zs.length - 1) = true
  · have hp : withoutString zs j = zs.set j.toNat (-1) := if_pos hg
    rw [hp]
    clear hp
    obtain ⟨h1, h2⟩ := inB_true.1 hg
    obtain ⟨k, rfl⟩ : ∃ k : Nat, j = (k : Int) := ⟨j.toNat, by omega⟩
    have hk : k < zs.length := by omega
    have HR := Lib.hid h
    clear h
    go_enter Try.func20, Try.ntmps20
    go_wp2_with (fail)
    refine (copyOf_any zs hn _ _ HR.out).mono ?_
    rintro e w1 ⟨u, rfl, o, hb⟩
    obtain ⟨A, cap1, rfl, hc1, hc2, hA⟩ := o.form
    obtain ⟨g, rfl, hg1, hg2⟩ := hA (by omega)
    clear hA
    obtain ⟨hd, hf⟩ := o.cell hk
    have ho2 := (o.set k (-1)).1
    have hB2 : Below w.heap.size w (w1.setCell ⟨g, k, none⟩ (.int .i64 (-1))) := hb.setCell hg1 _
    have HO := Lib.hid ho2
    clear ho2 o hb
    go_wp2_with (go_at_call 50; refine (within_any _ _ _ _).mono ?_; rintro e w' ⟨rfl, rfl⟩)
    go_ret
    refine ⟨_, rfl, ?_, hB2⟩
    exact HO.out
  · have hp : withoutString zs j = zs := if_neg hg
    rw [hp]
    clear hp
    have hg' : inB j 0 (zs.length - 1) = false := by simpa using hg
    clear hg
    have HR := Lib.hid h
    clear h
    go_enter Try.func20, Try.ntmps20
    go_wp2_with (fail)
    refine (copyOf_any zs hn _ _ HR.out).mono ?_
    rintro e w1 ⟨u, rfl, o, hb⟩
    go_wp2_with (go_at_call 50; refine (within_any _ _ _ _).mono ?_; rintro e w' ⟨rfl, rfl⟩)
    go_ret
    exact ⟨_, rfl, o, hb⟩
theorem specWithoutString_any (zs : List Int) (j : Int) (hn : zs.length ≤ 1048576) (v : Value) (w : World) (h : RdI w v zs) :
    Calls Try.prog 19 #[v, .int .i64 j] w fun e w' => ∃ u, e = .returned u ∧ OwI w' w.heap.size u (withoutString zs j) ∧ Below w.heap.size w w' := by
  have hB := below_alloc1 w (.cells #[] 3)
  have hr := h.below hB
  by_cases hg : inB j 0 (zs.length - 1) = true
  · have hp : withoutString zs j = zs.set j.toNat (-1) := if_pos hg
    rw [hp]
    clear hp
    obtain ⟨h1, h2⟩ := inB_true.1 hg
    obtain ⟨k, rfl⟩ : ∃ k : Nat, j = (k : Int) := ⟨j.toNat, by omega⟩
    have hk : k < zs.length := by omega
    go_enter Try.func19, Try.ntmps19
    go_wp2_with (first
      | (at_builtin; refine wpList_appI rfl (.tmp 6) (.tmp 7) rfl _ w.heap.size _ [] rfl (OwI.empty w _ (Nat.le_refl _)) _ zs rfl hr (by simp; omega) (by simp) ?_; intro v1 w1 o hgr _; obtain ⟨A, cap1, rfl, hc1, hc2, hA⟩ := o.form; simp only [List.nil_append] at o hA hc1 hc2; obtain ⟨g, rfl, hg1, hg2⟩ := hA (by omega); have hb := (OwI.empty w _ (Nat.le_refl _)).grown_below hB (Nat.le_refl _) hgr; clear hA hgr)
      | fail)
    obtain ⟨hd, hf⟩ := o.cell hk
    have ho2 := (o.set k (-1)).1
    have hB2 : Below w.heap.size w (w1.setCell ⟨g, k, none⟩ (.int .i64 (-1))) := hb.setCell hg1 _
    have HO := Lib.hid ho2
    clear ho2 o hb
    go_wp2_with (go_at_call 48; refine (l01In_any _ _ _ _).mono ?_; rintro e w' ⟨rfl, rfl⟩)
    go_ret
    refine ⟨_, rfl, ?_, hB2⟩
    exact HO.out
  · have hp : withoutString zs j = zs := if_neg hg
    rw [hp]
    clear hp
    have hg' : inB j 0 (zs.length - 1) = false := by simpa using hg
    clear hg
    go_enter Try.func19, Try.ntmps19
    go_wp2_with (first
      | (at_builtin; refine wpList_appI rfl (.tmp 6) (.tmp 7) rfl _ w.heap.size _ [] rfl (OwI.empty w _ (Nat.le_refl _)) _ zs rfl hr (by simp; omega) (by simp) ?_; intro v1 w1 o hgr _; obtain ⟨A, cap1, rfl, hc1, hc2, hA⟩ := o.form; simp only [List.nil_append] at o hA hc1 hc2; have hb := (OwI.empty w _ (Nat.le_refl _)).grown_below hB (Nat.le_refl _) hgr; clear hA hgr)
      | (go_at_call 48; refine (l01In_any _ _ _ _).mono ?_; rintro e w' ⟨rfl, rfl⟩))
    go_ret
    exact ⟨_, rfl, o, hb⟩
theorem walkFnExactWithoutString (zs : List Int) (j : Int) (vzs : Value) (w : World) (hzs : RdI w vzs zs) : Calls Try.prog 4 #[vzs, .int .i64 j] w fun e w' => e = .returned (.bool true) ∧ Below w.heap.size w w' := by
  obtain ⟨azs, capzs, rfl⟩ := hzs.shape
  by_cases hlzs : zs.length ≤ 1048576
  · skip
    have hB := Below.refl w.heap.size w
    have hyl : (withoutString zs j).length ≤ 1048576 := by rw [withoutString_length]; exact hlzs
    go_enter Try.func4, Try.ntmps4
    go_wp2_with (fail)
    refine (toIntS_any zs hlzs _ _ (hzs.below hB)).mono ?_
    rintro e w1 ⟨ut0, rfl, ot0, hb⟩
    have bt0 := hB.size
    replace hB := bvia hB hb
    clear hb
    go_wp2_with (fail)
    refine (specWithoutString_any zs j hlzs _ _ ot0.rd).mono ?_
    rintro e w2 ⟨uw, rfl, ow, hb⟩
    have dt0_w := ot0.dis ow (Nat.le_refl _)
    have dw_t0 := ot0.dis' ow (Nat.le_refl _)
    have bw := hB.size
    replace ot0 := ot0.below hb
    replace hB := bvia hB hb
    clear hb
    clear ot0
    go_wp2_with (fail)
    refine (toIntS_any zs hlzs _ _ (hzs.below hB)).mono ?_
    rintro e w3 ⟨ux0, rfl, ox0, hb⟩
    have dw_x0 := ow.dis ox0 (Nat.le_refl _)
    have dx0_w := ow.dis' ox0 (Nat.le_refl _)
    have bx0 := hB.size
    replace ow := ow.below hb
    replace hB := bvia hB hb
    clear hb
    go_wp2_with (fail)
    refine (implWithoutString_any zs j hlzs _ _ ox0.rd).mono ?_
    rintro e w4 ⟨ug, rfl, og, hb⟩
    have dw_g := ow.dis og (Nat.le_refl _)
    have dg_w := ow.dis' og (Nat.le_refl _)
    have dx0_g := ox0.dis og (Nat.le_refl _)
    have dg_x0 := ox0.dis' og (Nat.le_refl _)
    have bg := hB.size
    replace ow := ow.below hb
    replace ox0 := ox0.below hb
    replace hB := bvia hB hb
    clear hb
    go_wp2_with (fail)
    refine (eqIntS_any (withoutString zs j) _ _ _ og.rd ow.rd).mono ?_
    rintro e w5 ⟨rfl, hd⟩
    have hb := hd.below; clear hd
    replace ow := ow.below hb
    replace ox0 := ox0.below hb
    replace og := og.below hb
    replace hB := bvia hB hb
    clear hb
    go_wp2_with (fail)
    refine (toIntS_any zs hlzs _ _ (hzs.below hB)).mono ?_
    rintro e w6 ⟨uy0, rfl, oy0, hb⟩
    have dw_y0 := ow.dis oy0 (Nat.le_refl _)
    have dy0_w := ow.dis' oy0 (Nat.le_refl _)
    have dx0_y0 := ox0.dis oy0 (Nat.le_refl _)
    have dy0_x0 := ox0.dis' oy0 (Nat.le_refl _)
    have dg_y0 := og.dis oy0 (Nat.le_refl _)
    have dy0_g := og.dis' oy0 (Nat.le_refl _)
    have by0 := hB.size
    replace ow := ow.below hb
    replace ox0 := ox0.below hb
    replace og := og.below hb
    replace hB := bvia hB hb
    clear hb
    go_wp2_with (fail)
    refine (eqIntS_any zs _ _ _ ox0.rd oy0.rd).mono ?_
    rintro e w7 ⟨rfl, hd⟩
    have hb := hd.below; clear hd
    replace ow := ow.below hb
    replace ox0 := ox0.below hb
    replace og := og.below hb
    replace oy0 := oy0.below hb
    replace hB := bvia hB hb
    clear hb
    clear oy0
    go_wp2_with (fail)
    refine (markIntS_any zs _ (by omega) (by omega) _ _ _ ox0).mono ?_
    rintro e w8 ⟨rfl, om, hg⟩
    replace ow := ow.kept hg dw_x0
    replace og := og.kept hg dg_x0
    replace hB := below_mark hB ox0 bx0 hg
    clear hg ox0
    have ox0 := om
    clear om
    go_wp2_with (fail)
    refine (eqIntS_any (withoutString zs j) _ _ _ og.rd ow.rd).mono ?_
    rintro e w9 ⟨rfl, hd⟩
    have hb := hd.below; clear hd
    replace ow := ow.below hb
    replace ox0 := ox0.below hb
    replace og := og.below hb
    replace hB := bvia hB hb
    clear hb
    clear ox0
    go_wp2_with (fail)
    refine (markIntS_any (withoutString zs j) _ (by omega) (by omega) _ _ _ og).mono ?_
    rintro e w10 ⟨rfl, om, hg⟩
    replace ow := ow.kept hg dw_g
    replace hB := below_mark hB og bg hg
    clear hg og
    have og := om
    clear om
    go_wp2_with (fail)
    refine (heldIntS_any (withoutString zs j).length 1 (by omega) (by omega) _ _ og.rd).mono ?_
    rintro e w11 ⟨rfl, rfl⟩
    go_wp2_with (fail)
    refine (toIntS_any zs hlzs _ _ (hzs.below hB)).mono ?_
    rintro e w12 ⟨us0, rfl, os0, hb⟩
    have dw_s0 := ow.dis os0 (Nat.le_refl _)
    have ds0_w := ow.dis' os0 (Nat.le_refl _)
    have dg_s0 := og.dis os0 (Nat.le_refl _)
    have ds0_g := og.dis' os0 (Nat.le_refl _)
    have bs0 := hB.size
    replace ow := ow.below hb
    replace og := og.below hb
    replace hB := bvia hB hb
    clear hb
    go_wp2_with (fail)
    refine (implWithoutString_any zs j hlzs _ _ os0.rd).mono ?_
    rintro e w13 ⟨uh, rfl, oh, hb⟩
    have dw_h := ow.dis oh (Nat.le_refl _)
    have dh_w := ow.dis' oh (Nat.le_refl _)
    have dg_h := og.dis oh (Nat.le_refl _)
    have dh_g := og.dis' oh (Nat.le_refl _)
    have ds0_h := os0.dis oh (Nat.le_refl _)
    have dh_s0 := os0.dis' oh (Nat.le_refl _)
    have bh := hB.size
    replace ow := ow.below hb
    replace og := og.below hb
    replace os0 := os0.below hb
    replace hB := bvia hB hb
    clear hb
    clear os0
    go_wp2_with (fail)
    refine (eqIntS_any (withoutString zs j) _ _ _ oh.rd ow.rd).mono ?_
    rintro e w14 ⟨rfl, hd⟩
    have hb := hd.below; clear hd
    replace ow := ow.below hb
    replace og := og.below hb
    replace oh := oh.below hb
    replace hB := bvia hB hb
    clear hb
    go_wp2_with (fail)
    refine (heldIntS_any (withoutString zs j).length 1 (by omega) (by omega) _ _ og.rd).mono ?_
    rintro e w15 ⟨rfl, rfl⟩
    go_wp2_with (fail)
    go_returns
    exact ⟨rfl, hB⟩
  · go_enter Try.func4, Try.ntmps4
    go_wp2_with (fail)
    go_returns
    exact ⟨rfl, Below.refl _ _⟩
end Go.Proofs.Yteakfhmkaioaeaa
