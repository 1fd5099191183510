/- The walk of the law of CloseEnough. -/
import Derived.Test.YtcpkbohopicabaaClose
namespace Go.Proofs.Ytcpkbohopicabaa
open Go.ChangeShapes Go.WideShapes Go.ChangeAt Go.RowKit Go.Joins
set_option linter.unusedSimpArgs false
set_option linter.unusedVariables false
set_option maxHeartbeats 1600000 in
theorem walkFnExactCloseEnough (zs : LS) (m : Int) (vzs : Value) (w : World) (hzs : RdSpot w vzs zs) : Calls Try.prog 8 #[vzs, .int .i64 m] w fun e w' => e = .returned (.bool true) ∧ Below w.heap.size w w' := by
  have hmxzs : zs.length ≤ 9223372036854775807 := by obtain ⟨_, _, _, _, _, h1, h2, _⟩ := hzs.open; omega
  obtain ⟨az, capz, rfl⟩ := hzs.shape
  obtain ⟨hL1, hL2⟩ := closeF_len zs m
  by_cases hl : zs.length ≤ 1048576
  · have hB := Below.refl w.heap.size w
    go_enter Try.func8, Try.ntmps8
    go_wp2_with (fail)
    refine (szSpotS_ok _ _ _ _ (by omega) (by omega) _).mono ?_
    rintro e w' ⟨rfl, rfl⟩
    go_wp2_with (fail)
    refine (toSpotS_any zs (by omega) _ _ (hzs.below hB)).mono ?_
    rintro e w1 ⟨ut, rfl, ot, hb⟩
    replace hB := bvia hB hb
    clear hb
    go_wp2_with (fail)
    refine (specCloseEnough_any zs m _ _ ot.rd).mono ?_
    rintro e w2 ⟨uw, rfl, ow, hb⟩
    replace hB := bvia hB hb
    clear hb
    clear ot
    have hp := Below.refl w2.heap.size w2
    have b2 := hB.size
    go_wp2_with (fail)
    refine (toSpotS_any zs (by omega) _ _ (hzs.below hB)).mono ?_
    rintro e w3 ⟨ux, rfl, ox, hb⟩
    replace hp := bvia hp hb
    replace hB := bvia hB hb
    clear hb
    have hxl : ∀ k, ux.ownBlock = some k → k < w3.heap.size := fun k hk => (ox.lt k hk).2
    have b3 := hB.size
    have p3 := hp.size
    have hs := Nat.le_refl w3.heap.size
    go_wp2_with (fail)
    refine (implCloseEnough_any zs m _ _ ox.rd).mono ?_
    rintro e w4 ⟨ug, rfl, og, hb⟩
    replace ox := ox.below hb
    replace hp := bvia hp hb
    replace hs := Nat.le_trans hs hb.size
    replace hB := bvia hB hb
    clear hb
    go_wp2_with (fail)
    refine (eqIntSS_any (closeF zs m) _ _ _ og.rd (ow.rd.below hp)).mono ?_
    rintro e w5 ⟨rfl, hd⟩
    have hb := hd.below; clear hd
    replace ox := ox.below hb
    replace og := og.below hb
    replace hp := bvia hp hb
    replace hs := Nat.le_trans hs hb.size
    replace hB := bvia hB hb
    clear hb
    go_wp2_with (fail)
    refine (toSpotS_any zs (by omega) _ _ (hzs.below hB)).mono ?_
    rintro e w6 ⟨uy, rfl, oy, hb⟩
    replace ox := ox.below hb
    replace og := og.below hb
    replace hp := bvia hp hb
    replace hs := Nat.le_trans hs hb.size
    replace hB := bvia hB hb
    clear hb
    go_wp2_with (fail)
    refine (eqSpotS_any zs _ _ _ ox.rd oy.rd).mono ?_
    rintro e w7 ⟨rfl, hb⟩
    replace ox := ox.below hb
    replace og := og.below hb
    replace oy := oy.below hb
    replace hp := bvia hp hb
    replace hs := Nat.le_trans hs hb.size
    replace hB := bvia hB hb
    clear hb
    clear oy
    go_wp2_with (fail)
    refine (markSpotS_any zs _ (by omega) (by omega) _ _ _ ox).mono ?_
    rintro e w8 ⟨rfl, om, hg⟩
    replace og := og.kept_lt (C := 0) hg hxl
    replace hs := Nat.le_trans hs hg.size
    replace hp := hp.grown hg hp.size (fun k hk => (ox.lt k hk).1)
    replace hB := ox.grown_below hB b2 hg
    clear om hg ox
    go_wp2_with (fail)
    refine (eqIntSS_any (closeF zs m) _ _ _ og.rd (ow.rd.below hp)).mono ?_
    rintro e w9 ⟨rfl, hd⟩
    have hb := hd.below; clear hd
    replace og := og.below hb
    replace hp := bvia hp hb
    replace hs := Nat.le_trans hs hb.size
    replace hB := bvia hB hb
    clear hb
    go_wp2_with (fail)
    refine (markIntSS_any (closeF zs m) 1 (by omega) (by omega) (by omega) _ _ _ og).mono ?_
    rintro e w10 ⟨rfl, om, hg⟩
    have hbk := hg hs
    replace hs := Nat.le_trans hs hbk.size
    replace hp := hp.trans (hbk.mono p3)
    replace hB := hB.trans (hbk.mono b3)
    clear hg og hbk
    have og := om
    clear om
    go_wp2_with (fail)
    refine (heldIntSS_any (closeF zs m) 1 (by omega) (by omega) (by omega) _ _ og.rd).mono ?_
    rintro e w11 ⟨rfl, rfl⟩
    go_wp2_with (fail)
    refine (toSpotS_any zs (by omega) _ _ (hzs.below hB)).mono ?_
    rintro e w12 ⟨us, rfl, os, hb⟩
    replace og := og.below hb
    replace hp := bvia hp hb
    replace hs := Nat.le_trans hs hb.size
    replace hB := bvia hB hb
    clear hb
    go_wp2_with (fail)
    refine (implCloseEnough_any zs m _ _ os.rd).mono ?_
    rintro e w13 ⟨uh, rfl, oh, hb⟩
    replace og := og.below hb
    replace os := os.below hb
    replace hp := bvia hp hb
    replace hs := Nat.le_trans hs hb.size
    replace hB := bvia hB hb
    clear hb
    clear os
    go_wp2_with (fail)
    refine (eqIntSS_any (closeF zs m) _ _ _ oh.rd (ow.rd.below hp)).mono ?_
    rintro e w14 ⟨rfl, hd⟩
    have hb := hd.below; clear hd
    replace og := og.below hb
    replace oh := oh.below hb
    replace hp := bvia hp hb
    replace hs := Nat.le_trans hs hb.size
    replace hB := bvia hB hb
    clear hb
    go_wp2_with (fail)
    refine (heldIntSS_any (closeF zs m) 1 (by omega) (by omega) (by omega) _ _ og.rd).mono ?_
    rintro e w15 ⟨rfl, rfl⟩
    go_wp2_with (fail)
    go_returns
    exact ⟨rfl, hB⟩
  · go_enter Try.func8, Try.ntmps8
    go_wp2_with (fail)
    refine (szSpotS_no _ _ _ (by omega) _ (by omega) (by omega) (by omega) _).mono ?_
    rintro e w' ⟨rfl, rfl⟩
    go_wp2_with (fail)
    go_returns
    exact ⟨rfl, Below.refl _ _⟩
end Go.Proofs.Ytcpkbohopicabaa
