/- The walks of LongestRest: the greatest number of days between two shows. -/
import Derived.Test.YteakfhmkaioaeaaSeason
namespace Go.Proofs.Yteakfhmkaioaeaa
open Go.ChangeShapes Go.WideShapes Go.ChangeAt Go.RowKit Go.Joins
set_option linter.unusedSimpArgs false
set_option linter.unusedVariables false

/-- The greatest gap between neighbours, at least b. -/
def gaps : List Int → Int → Int
  | x :: y :: r, b => gaps (y :: r) (max b (y - x - 1))
  | [_], b => b
  | [], b => b
theorem gaps_step (x y : Int) (r : List Int) (b : Int) : gaps (x :: y :: r) b = gaps (y :: r) (max b (y - x - 1)) := rfl
def longestRest (zs : List Int) : Int := if seasonB zs = true ∧ 2 ≤ zs.length then gaps zs 0 else -1
theorem season_mem {zs : List Int} (h : seasonB zs = true) : zs.length ≤ 60 ∧ (∀ z ∈ zs, 0 ≤ z ∧ z ≤ 365) ∧ strictB zs = true := by
  simp only [seasonB, risesB, Bool.and_eq_true, decide_eq_true_eq] at h
  exact ⟨h.1, allB_mem h.2.2, h.2.1⟩
theorem getD_mem {zs : List Int} {k : Nat} (h : k < zs.length) : zs.getD k 0 ∈ zs := by rw [getD_lt h]; exact List.getElem_mem h
theorem gaps_last (zs : List Int) (b : Int) : gaps (zs.drop (zs.length - 1)) b = b := by
  rcases Nat.eq_zero_or_pos zs.length with h0 | h0
  · rw [List.drop_of_length_le (by omega)]; rfl
  · rw [drop_one (by omega), show zs.length - 1 + 1 = zs.length by omega, List.drop_length]; rfl
theorem specLongestRest_any (zs : List Int) (v : Value) (w : World) (h : RdI w v zs) : Calls Try.prog 27 #[v] w fun e w' => e = .returned (.int .i64 (longestRest zs)) ∧ Dr w w' := by
  have HR := Lib.hid h
  obtain ⟨ad, cap, bl, off, hv, hcap, hmax, had, hc⟩ := h.open
  subst hv
  have HC := Lib.hid hc
  clear h hc
  by_cases hg : seasonB zs = true ∧ 2 ≤ zs.length
  · have hp : longestRest zs = gaps zs 0 := if_pos hg
    rw [hp]
    clear hp
    obtain ⟨hs, h2⟩ := hg
    obtain ⟨hl60, hm, _⟩ := season_mem hs
    have HM := Lib.hid hm
    clear hm
    go_enter Try.func27, Try.ntmps27
    go_wp2_with (go_at_call 15; refine (specSeasonOk_any zs _ _ HR.out).mono ?_; rintro e w1 ⟨rfl, hd⟩)
    go_loopw [3, 4] (fun b i wr => ∃ (k : Nat) (q : Int), 1 ≤ k ∧ k ≤ zs.length ∧ i = .int .i64 k ∧ b = .int .i64 q ∧ Dr w wr ∧ Hid (gaps (zs.drop (k - 1)) q = gaps zs 0)) (fun _ i _ => zs.length - (intOf i).toNat)
    case atStart => exact ⟨1, 0, Nat.le_refl _, by omega, rfl, rfl, hd, rfl⟩
    case round =>
      obtain ⟨k, q, hk1, hk, rfl, rfl, hD, H⟩ := hrel
      by_cases hlt : k < zs.length
      · obtain rfl := had (by omega)
        obtain ⟨x, y, hck, hcl, hx, hy, HX⟩ : ∃ x y, wr.cell? ⟨bl, off + k, none⟩ = some (.int .i64 x) ∧ wr.cell? ⟨bl, off + (k - 1), none⟩ = some (.int .i64 y) ∧ (0 ≤ x ∧ x ≤ 365) ∧ (0 ≤ y ∧ y ≤ 365) ∧ Hid (zs.drop (k - 1) = y :: x :: zs.drop (k + 1) ∧ zs.drop k = x :: zs.drop (k + 1)) :=
          ⟨_, _, hD.cell (HC.out k hlt), hD.cell (HC.out (k - 1) (by omega)), HM.out _ (getD_mem hlt), HM.out _ (getD_mem (by omega)), drop_two (by omega) hlt, drop_one hlt⟩
        obtain ⟨hx0, hx1⟩ := hx
        obtain ⟨hy0, hy1⟩ := hy
        have q1 : (k : Int) < (zs.length : Int) := by omega
        have q2 : IntKind.i64.wrap ((k : Int) - 1) = (k : Int) - 1 := IntWalk.i64_in _ (by omega)
        have q3 : (1 : Int) ≤ (k : Int) := by omega
        have q4 : (k : Int) - 1 < (zs.length : Int) := by omega
        have q5 : ((k : Int) - 1).toNat = k - 1 := by omega
        have q6 : 1 ≤ k := by omega
        go_wp2
        go_quiet (fail)
        clear q1 q2 q3 q4 q5 q6
        go_wp2
        exact ⟨⟨k + 1, max q (x - y - 1), by omega, by omega, by go_num, by go_num, hD.next _, by show gaps (zs.drop k) _ = _; rw [← H.out, HX.out.1, gaps_step, HX.out.2]⟩, by simp [intOf]; omega⟩
      · go_wp2
        go_ret
        obtain rfl : k = zs.length := by omega
        exact ⟨ret_int (by rw [← H.out, gaps_last]), hD⟩
  · have hp : longestRest zs = -1 := if_neg hg
    rw [hp]
    clear hp
    go_enter Try.func27, Try.ntmps27
    go_wp2_with (go_at_call 15; refine (specSeasonOk_any zs _ _ HR.out).mono ?_; rintro e w1 ⟨rfl, hd⟩)
    all_goals first | (exfalso; simp_all; omega) | (go_ret; exact ⟨rfl, hd⟩)
theorem implLongestRest_any (zs : List Int) (v : Value) (w : World) (h : RdI w v zs) : Calls Try.prog 28 #[v] w fun e w' => e = .returned (.int .i64 (longestRest zs)) ∧ Dr w w' := by
  have HR := Lib.hid h
  obtain ⟨ad, cap, bl, off, hv, hcap, hmax, had, hc⟩ := h.open
  subst hv
  have HC := Lib.hid hc
  clear h hc
  by_cases hg : seasonB zs = true ∧ 2 ≤ zs.length
  · have hp : longestRest zs = gaps zs 0 := if_pos hg
    rw [hp]
    clear hp
    obtain ⟨hs, h2⟩ := hg
    obtain ⟨hl60, hm, _⟩ := season_mem hs
    have HM := Lib.hid hm
    clear hm
    go_enter Try.func28, Try.ntmps28
    go_wp2_with (go_at_call 17; refine (implSeasonOk_any zs _ _ HR.out).mono ?_; rintro e w1 ⟨rfl, hd⟩)
    go_loopw [3, 4] (fun b i wr => ∃ (k : Nat) (q : Int), 1 ≤ k ∧ k ≤ zs.length ∧ i = .int .i64 k ∧ b = .int .i64 q ∧ Dr w wr ∧ Hid (gaps (zs.drop (k - 1)) q = gaps zs 0)) (fun _ i _ => zs.length - (intOf i).toNat)
    case atStart => exact ⟨1, 0, Nat.le_refl _, by omega, rfl, rfl, hd, rfl⟩
    case round =>
      obtain ⟨k, q, hk1, hk, rfl, rfl, hD, H⟩ := hrel
      by_cases hlt : k < zs.length
      · obtain rfl := had (by omega)
        obtain ⟨x, y, hck, hcl, hx, hy, HX⟩ : ∃ x y, wr.cell? ⟨bl, off + k, none⟩ = some (.int .i64 x) ∧ wr.cell? ⟨bl, off + (k - 1), none⟩ = some (.int .i64 y) ∧ (0 ≤ x ∧ x ≤ 365) ∧ (0 ≤ y ∧ y ≤ 365) ∧ Hid (zs.drop (k - 1) = y :: x :: zs.drop (k + 1) ∧ zs.drop k = x :: zs.drop (k + 1)) :=
          ⟨_, _, hD.cell (HC.out k hlt), hD.cell (HC.out (k - 1) (by omega)), HM.out _ (getD_mem hlt), HM.out _ (getD_mem (by omega)), drop_two (by omega) hlt, drop_one hlt⟩
        obtain ⟨hx0, hx1⟩ := hx
        obtain ⟨hy0, hy1⟩ := hy
        have q1 : (k : Int) < (zs.length : Int) := by omega
        have q2 : IntKind.i64.wrap ((k : Int) - 1) = (k : Int) - 1 := IntWalk.i64_in _ (by omega)
        have q3 : (1 : Int) ≤ (k : Int) := by omega
        have q4 : (k : Int) - 1 < (zs.length : Int) := by omega
        have q5 : ((k : Int) - 1).toNat = k - 1 := by omega
        have q6 : 1 ≤ k := by omega
        go_wp2
        go_quiet (fail)
        clear q1 q2 q3 q4 q5 q6
        go_wp2
        exact ⟨⟨k + 1, max q (x - y - 1), by omega, by omega, by go_num, by go_num, hD.next _, by show gaps (zs.drop k) _ = _; rw [← H.out, HX.out.1, gaps_step, HX.out.2]⟩, by simp [intOf]; omega⟩
      · go_wp2
        go_ret
        obtain rfl : k = zs.length := by omega
        exact ⟨ret_int (by rw [← H.out, gaps_last]), hD⟩
  · have hp : longestRest zs = -1 := if_neg hg
    rw [hp]
    clear hp
    go_enter Try.func28, Try.ntmps28
    go_wp2_with (go_at_call 17; refine (implSeasonOk_any zs _ _ HR.out).mono ?_; rintro e w1 ⟨rfl, hd⟩)
    all_goals first | (exfalso; simp_all; omega) | (go_ret; exact ⟨rfl, hd⟩)
theorem walkFnExactLongestRest (zs : List Int) (vzs : Value) (w : World) (hzs : RdI w vzs zs) : Calls Try.prog 7 #[vzs] w fun e w' => e = .returned (.bool true) ∧ Below w.heap.size w w' := by
  obtain ⟨azs, capzs, rfl⟩ := hzs.shape
  by_cases hlzs : zs.length ≤ 1048576
  · skip
    have hB := Below.refl w.heap.size w
    go_enter Try.func7, Try.ntmps7
    go_wp2_with (fail)
    refine (toIntS_any zs hlzs _ _ (hzs.below hB)).mono ?_
    rintro e w1 ⟨ut0, rfl, ot0, hb⟩
    have bt0 := hB.size
    replace hB := bvia hB hb
    clear hb
    go_wp2_with (fail)
    refine (specLongestRest_any zs  _ _ ot0.rd).mono ?_
    rintro e w2 ⟨rfl, hd⟩
    have hb := hd.below; clear hd
    replace ot0 := ot0.below hb
    replace hB := bvia hB hb
    clear hb
    clear ot0
    go_wp2_with (fail)
    refine (toIntS_any zs hlzs _ _ (hzs.below hB)).mono ?_
    rintro e w3 ⟨ux0, rfl, ox0, hb⟩
    have bx0 := hB.size
    replace hB := bvia hB hb
    clear hb
    go_wp2_with (fail)
    refine (implLongestRest_any zs  _ _ ox0.rd).mono ?_
    rintro e w4 ⟨rfl, hd⟩
    have hb := hd.below; clear hd
    replace ox0 := ox0.below hb
    replace hB := bvia hB hb
    clear hb
    go_wp2_with (fail)
    refine (toIntS_any zs hlzs _ _ (hzs.below hB)).mono ?_
    rintro e w5 ⟨uy0, rfl, oy0, hb⟩
    have dx0_y0 := ox0.dis oy0 (Nat.le_refl _)
    have dy0_x0 := ox0.dis' oy0 (Nat.le_refl _)
    have by0 := hB.size
    replace ox0 := ox0.below hb
    replace hB := bvia hB hb
    clear hb
    go_wp2_with (fail)
    refine (eqIntS_any zs _ _ _ ox0.rd oy0.rd).mono ?_
    rintro e w6 ⟨rfl, hd⟩
    have hb := hd.below; clear hd
    replace ox0 := ox0.below hb
    replace oy0 := oy0.below hb
    replace hB := bvia hB hb
    clear hb
    clear oy0
    go_wp2_with (fail)
    go_returns
    exact ⟨rfl, hB⟩
  · go_enter Try.func7, Try.ntmps7
    go_wp2_with (fail)
    go_returns
    exact ⟨rfl, Below.refl _ _⟩
end Go.Proofs.Yteakfhmkaioaeaa
