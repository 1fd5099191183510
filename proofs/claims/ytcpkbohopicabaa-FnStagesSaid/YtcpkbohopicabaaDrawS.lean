/- The draw of FnStages: a floor with spots that are one another's neighbours at most. -/
import Derived.Test.YtcpkbohopicabaaSpots
import Derived.Test.YtcpkbohopicabaaApSpot
import Derived.Test.YtcpkbohopicabaaWalk
import Derived.Test.YtcpkbohopicabaaDraw
namespace Go.Proofs.Ytcpkbohopicabaa
open Go.ChangeShapes Go.WideShapes Go.ChangeAt Go.RowKit Go.Joins
set_option linter.unusedSimpArgs false
set_option linter.unusedVariables false

set_option maxHeartbeats 1000000 in
theorem l32Spots_any (a : World) (g : Nat) (hag : a.heap.size ≤ g) (w : World) (hc : Cur w a.heap.size g) (hB : Below a.heap.size a w) :
    Calls Try.prog 55 #[.pointer (some ⟨g, 0, none⟩)] w fun e w' => ∃ (wd ht : Int) (u : Value) (zs : List Sp), e = .returned (.tuple #[.int .i64 wd, .int .i64 ht, u]) ∧ spotsB wd ht zs = true ∧ OwSpot w' w.heap.size u zs ∧ Below a.heap.size a w' := by
  have hgl := hc.lt'
  have hs0 := hB.size
  go_enter Try.func55, Try.ntmps55
  go_wp2_with (fail)
  refine (l01Below_any _ g 6 (by omega) _ hc).mono ?_
  rintro e w2 ⟨x, rfl, x0, x1, _, hc2, hg⟩
  replace hB := below_cur hB hg hag (by omega)
  have hs2 := hg.size
  clear hg hc
  replace x1 := x1 (by omega)
  obtain ⟨wd, hwd⟩ : ∃ t, 1 + x = t := ⟨_, rfl⟩
  have hw6 : 1 ≤ wd ∧ wd ≤ 6 := by omega
  go_wp2_with (fail)
  refine (l01Below_any _ g 6 (by omega) _ hc2).mono ?_
  rintro e w3 ⟨y, rfl, y0, y1, _, hc3, hg⟩
  replace hB := below_cur hB hg hag (by omega)
  have hs3 := hg.size
  clear hg hc2
  replace y1 := y1 (by omega)
  obtain ⟨ht, hht⟩ : ∃ t, 1 + y = t := ⟨_, rfl⟩
  have hh6 : 1 ≤ ht ∧ ht ≤ 6 := by omega
  clear x0 x1 y0 y1
  have ho := OwSpot.empty w3 w.heap.size (by omega)
  have hb0 := below_alloc1 w3 (.cells #[] 50)
  have hc4 := hc3.below hb0
  have hB4 := bvia hB hb0
  have HS := Lib.hid (And.intro ho (And.intro hc4 hB4))
  clear ho hb0 hc4 hB4 hc3 hB
  go_wp2_with (fail)
  have hs4 : w.heap.size ≤ (w3.alloc (.cells #[] 50)).heap.size := by simp; omega
  generalize w3.alloc (.cells #[] 50) = w4 at HS hs4 ⊢
  generalize w3.heap.size = g3 at HS ⊢
  clear hwd hht hs3 hs2
  obtain ⟨ho, hc, hB⟩ := HS.out
  clear HS
  refine (l01Below_any _ g 7 (by omega) _ hc).mono ?_
  rintro e w5 ⟨m, rfl, m0, m1, _, hc5, hg⟩
  replace hB := below_cur hB hg hag (by have := hB.size; omega)
  replace ho := ho.kept hg (dis_cur ho.lt hgl.2)
  have hsg := hg.size
  clear hg hc
  replace m1 := m1 (by omega)
  have hs5 := hB.size
  have hw5 : w.heap.size ≤ w5.heap.size := Nat.le_trans hs4 hsg
  clear hs4 hsg
  have hz0 : Hid (spotsB wd ht [] = true) := by
    show _ = _
    unfold spotsB
    rw [inB_true.2 (by omega), inB_true.2 (by omega)]
    rfl
  go_wp2_with (fail)
  go_loopw [7, 8] (fun u i wr => ∃ (zs : List Sp) (k : Int), i = .int .i64 k ∧ 0 ≤ k ∧ (zs.length : Int) + k ≤ 6 ∧ w.heap.size ≤ wr.heap.size ∧ OwSpot wr w.heap.size u zs ∧ Cur wr a.heap.size g ∧ Below a.heap.size a wr ∧ Hid (spotsB wd ht zs = true)) (fun _ i _ => (intOf i).toNat)
  case atStart => exact ⟨[], m, rfl, m0, by simp; omega, hw5, ho, hc5, hB, hz0.out⟩
  case round =>
   focus
    clear ho hB hc5 hz0
    obtain ⟨zs, k, rfl, k0, hk, hwr, ho, hc, hB, HZ⟩ := hrel
    have hgwr := hc.lt'.2
    have hsr := hB.size
    have hogl := ho.lt
    obtain ⟨A, ca, rfl, _⟩ := ho.form
    by_cases hk0 : 0 < k
    · have he := OwSpot.empty wr wr.heap.size (Nat.le_refl _)
      have hbe := below_alloc1 wr (.cells #[] 50)
      go_wp2_with (at_builtin; refine wpList_appSpot rfl (.tmp 23) (.tmp 24) rfl _ wr.heap.size _ [] rfl he _ zs rfl (ho.rd.alloc _) (by simp; omega) (by simp) ?_; intro v1 w6 o1 hgr0 _; simp only [List.nil_append] at o1; have hb6 := he.grown_below hbe (Nat.le_refl _) hgr0; clear hgr0 he hbe)
      replace ho := ho.below hb6
      replace hc := hc.below hb6
      replace hB := bvia hB hb6
      have hs6 := hb6.size
      clear hb6
      have hcg := hc.lt'
      refine (l01Below_any _ g wd (by omega) _ hc).mono ?_
      rintro e w7 ⟨x, rfl, _, _, _, hc7, hg⟩
      replace hB := below_cur hB hg hag (by omega)
      replace ho := ho.kept hg (dis_cur ho.lt hgl.2)
      replace o1 := o1.kept hg (dis_cur o1.lt (by omega))
      have hs7 := hg.size
      clear hg hc
      go_wp2_with (fail)
      refine (l01Below_any _ g ht (by omega) _ hc7).mono ?_
      rintro e w8 ⟨y, rfl, _, _, _, hc8, hg⟩
      replace hB := below_cur hB hg hag (by omega)
      replace ho := ho.kept hg (dis_cur ho.lt hgl.2)
      replace o1 := o1.kept hg (dis_cur o1.lt (by omega))
      have hs8 := hg.size
      clear hg hc7
      have d1 := dis_of hogl o1.lt (Nat.le_refl _)
      have d2 : Dis (curV g) v1 := dis_cur' o1.lt (by omega)
      have hw8 : wr.heap.size ≤ w8.heap.size := by omega
      go_wp2_with (at_builtin; refine wpList_appSpot rfl (.tmp 25) (.tmp 33) rfl _ wr.heap.size _ zs rfl (o1.alloc _) _ [(x, y)] rfl (rdSpot_one w8 x y) (by simp; omega) (by simp; omega) ?_; intro v2 w9 o2 hgr _; have hs9 := hgr.size; simp only [World.size_alloc] at hs9; have ho9 := (ho.alloc (.cells #[.int .i64 x, .int .i64 y] 50)).kept hgr d1; have hc9 := (hc8.below (below_alloc1 w8 (.cells #[.int .i64 x, .int .i64 y] 50))).kept hgr (fun q hq => by have := (o1.lt q hq).1; omega) d2; have hB9 := (o1.alloc (.cells #[.int .i64 x, .int .i64 y] 50)).grown_below (hB.alloc hB.size (.cells #[.int .i64 x, .int .i64 y] 50)) hsr hgr; clear hgr)
      refine (specSpotsOk_any wd ht (zs ++ [(x, y)]) _ _ o2.rd).mono ?_
      rintro e w10 ⟨rfl, hd⟩
      have hb10 := hd.below
      clear hd
      have hs10 := hb10.size
      replace o2 := o2.below hb10
      replace ho9 := ho9.below hb10
      replace hc9 := hc9.below hb10
      replace hB9 := bvia hB9 hb10
      clear hb10 ho hB hc8 o1 hogl
      cases h5 : spotsB wd ht (zs ++ [(x, y)]) with
      | true =>
        have HZ2 := Lib.hid h5
        go_wp2_with (fail)
        exact ⟨⟨zs ++ [(x, y)], k - 1, by go_num, by omega, by simp; omega, by omega, o2.base (by omega), hc9, hB9, HZ2.out⟩, by simp [intOf]; omega⟩
      | false =>
        go_wp2_with (fail)
        exact ⟨⟨zs, k - 1, by go_num, by omega, by omega, by omega, ho9, hc9, hB9, HZ.out⟩, by simp [intOf]; omega⟩
    · go_wp2_with (fail)
      go_ret3
      exact ⟨_, _, _, rfl, zs, HZ.out, ho, hB⟩
theorem drawSpots_any (n : Nat) (v : Value) (w : World) (h : RdB w w.heap.size v n) :
    Calls Try.prog 38 #[v] w fun e w' => ∃ (wd ht : Int) (u : Value) (zs : List Sp), e = .returned (.tuple #[.int .i64 wd, .int .i64 ht, u]) ∧ spotsB wd ht zs = true ∧ OwSpot w' w.heap.size u zs ∧ Below w.heap.size w w' := by
  go_enter Try.func38, Try.ntmps38
  go_wp2_with (fail)
  refine (l01New_any n v w h).mono ?_
  rintro e w1 ⟨g, rfl, hc, hB⟩
  go_wp2_with (fail)
  refine (l32Spots_any w g hc.lt'.1 w1 hc hB).mono ?_
  rintro e w2 ⟨wd, ht, u, zs, rfl, hz, ho, hB2⟩
  replace ho := ho.base hB.size
  go_wp2_with (fail)
  go_ret3
  first | exact ⟨_, _, _, rfl, zs, hz, ho, hB2⟩ | exact ⟨_, _, _, zs, rfl, hz, ho, hB2⟩
end Go.Proofs.Ytcpkbohopicabaa
