/- The walks of Lend: a loan is appended. -/
import Derived.Test.YtgfpnadjkemafaaLoans
import Derived.Test.YtgfpnadjkemafaaApLoan
namespace Go.Proofs.Ytgfpnadjkemafaa
open Go.ChangeShapes Go.WideShapes Go.ChangeAt Go.RowKit Go.Joins
set_option linter.unusedSimpArgs false
set_option linter.unusedVariables false

theorem copyLoans_any (zs : List (Int × Int)) (hn : zs.length ≤ 1048576) (v : Value) (w : World) (h : RdLoan w v zs) : Calls Try.prog 39 #[v] w fun e w' => ∃ u, e = .returned u ∧ OwLoan w' w.heap.size u zs ∧ Below w.heap.size w w' := by
  have hB := below_alloc1 w (.cells #[] 46)
  have ho := OwLoan.empty w w.heap.size (Nat.le_refl _)
  go_enter Try.func39, Try.ntmps39
  go_wp2_with (at_builtin; refine wpList_appLoan rfl (.tmp 3) (.tmp 4) rfl _ w.heap.size _ [] rfl ho _ zs rfl (h.alloc _) (by simp; omega) (by simp) ?_; intro v1 w1 o1 hgr _; simp only [List.nil_append] at o1)
  go_ret
  exact ⟨_, rfl, o1, ho.grown_below hB (Nat.le_refl _) hgr⟩
def lendOk (zs : List (Int × Int)) (p s : Int) : Bool := loansB zs && loansB (zs ++ [(p, s)])
def lendF (zs : List (Int × Int)) (p s : Int) : List (Int × Int) := if lendOk zs p s = true then zs ++ [(p, s)] else zs
theorem lendF_length (zs : List (Int × Int)) (p s : Int) : (lendF zs p s).length ≤ zs.length + 1 := by
  unfold lendF
  split
  · simp
  · omega
set_option maxHeartbeats 800000 in
theorem implLend_any (zs : List (Int × Int)) (p s : Int) (hn : zs.length ≤ 1048576) (v : Value) (w : World) (h : RdLoan w v zs) :
    Calls Try.prog 16 #[v, .int .i64 p, .int .i64 s] w fun e w' => ∃ u, e = .returned (.tuple #[u, .bool (lendOk zs p s)]) ∧ OwLoan w' w.heap.size u (lendF zs p s) ∧ Below w.heap.size w w' := by
  go_enter Try.func16, Try.ntmps16
  go_wp2_with (fail)
  refine (copyLoans_any zs hn _ _ h).mono ?_
  rintro e w1 ⟨u, rfl, o, hb⟩
  have hB2 := hb.alloc hb.size (.cells #[.int .i64 p, .int .i64 s] 46)
  have hBs := hb.size
  go_wp2_with (at_builtin; refine wpList_appLoan rfl (.tmp 10) (.tmp 14) rfl _ w.heap.size _ zs rfl (o.alloc _) _ [(p, s)] rfl (rdLoan_one _ _ _) (by simp; omega) hB2.size ?_; intro v1 w2 o1 hgr _; replace hb := (o.alloc _).grown_below hB2 (Nat.le_refl _) hgr; clear hgr hB2 o)
  by_cases h1 : loansB zs = true
  · by_cases h2 : loansB (zs ++ [(p, s)]) = true
    · have hok : lendOk zs p s = true := by simp [lendOk, h1, h2]
      have hp : lendF zs p s = zs ++ [(p, s)] := if_pos hok
      have HK := Lib.hid (And.intro hok hp)
      clear hok hp
      go_wp2_with (fail)
      refine (implLoansOk_any zs _ _ (h.below hb)).mono ?_
      rintro e w3 ⟨rfl, hd⟩
      replace o1 := o1.below hd
      replace hb := bvia hb hd
      clear hd
      go_wp2_with (fail)
      refine (implLoansOk_any _ _ _ o1.rd).mono ?_
      rintro e w4 ⟨rfl, hd⟩
      replace o1 := o1.below hd
      replace hb := bvia hb hd
      clear hd
      go_wp2_with (fail)
      go_ret2
      exact ⟨_, ret_pairB HK.out.1.symm, by rw [HK.out.2]; exact o1, hb⟩
    · have h2' : loansB (zs ++ [(p, s)]) = false := by simpa using h2
      have hok : lendOk zs p s = false := by simp [lendOk, h2']
      have hp : lendF zs p s = zs := if_neg (by simp [hok])
      have HK := Lib.hid (And.intro hok hp)
      clear hp hok h2
      go_wp2_with (fail)
      refine (implLoansOk_any zs _ _ (h.below hb)).mono ?_
      rintro e w3 ⟨rfl, hd⟩
      replace o1 := o1.below hd
      replace hb := bvia hb hd
      clear hd
      go_wp2_with (fail)
      refine (implLoansOk_any _ _ _ o1.rd).mono ?_
      rintro e w4 ⟨rfl, hd⟩
      replace hb := bvia hb hd
      clear hd o1
      go_wp2_with (fail)
      refine (copyLoans_any zs hn _ _ (h.below hb)).mono ?_
      rintro e w5 ⟨u5, rfl, o5, hb5⟩
      go_wp2_with (fail)
      go_ret2
      exact ⟨_, ret_pairB HK.out.1.symm, by rw [HK.out.2]; exact o5.base hb.size, bvia hb hb5⟩
  · have h1' : loansB zs = false := by simpa using h1
    have hok : lendOk zs p s = false := by simp [lendOk, h1']
    have hp : lendF zs p s = zs := if_neg (by simp [hok])
    have HK := Lib.hid (And.intro hok hp)
    clear hp hok h1
    go_wp2_with (fail)
    refine (implLoansOk_any zs _ _ (h.below hb)).mono ?_
    rintro e w3 ⟨rfl, hd⟩
    replace hb := bvia hb hd
    clear hd o1
    go_wp2_with (fail)
    refine (copyLoans_any zs hn _ _ (h.below hb)).mono ?_
    rintro e w5 ⟨u5, rfl, o5, hb5⟩
    go_wp2_with (fail)
    go_ret2
    exact ⟨_, ret_pairB HK.out.1.symm, by rw [HK.out.2]; exact o5.base hb.size, bvia hb hb5⟩
set_option maxHeartbeats 800000 in
theorem specLend_any (zs : List (Int × Int)) (p s : Int) (hn : zs.length ≤ 1048576) (v : Value) (w : World) (h : RdLoan w v zs) :
    Calls Try.prog 15 #[v, .int .i64 p, .int .i64 s] w fun e w' => ∃ u, e = .returned (.tuple #[u, .bool (lendOk zs p s)]) ∧ OwLoan w' w.heap.size u (lendF zs p s) ∧ Below w.heap.size w w' := by
  go_enter Try.func15, Try.ntmps15
  have hB1 := below_alloc1 w (.cells #[] 46)
  have ho := OwLoan.empty w w.heap.size (Nat.le_refl _)
  go_wp2_with (first | (at_builtin; refine wpList_appLoan rfl (.tmp 9) (.tmp 10) rfl _ w.heap.size _ [] rfl ho _ zs rfl (h.alloc _) (by simp; omega) (by simp) ?_; intro v0 w1 o hgr0 _; simp only [List.nil_append] at o; have hb := ho.grown_below hB1 (Nat.le_refl _) hgr0; have hB2 := hb.alloc hb.size (.cells #[.int .i64 p, .int .i64 s] 46); have hBs := hb.size) | (at_builtin; refine wpList_appLoan rfl (.tmp 11) (.tmp 15) rfl _ w.heap.size _ zs rfl (o.alloc _) _ [(p, s)] rfl (rdLoan_one _ _ _) (by simp; omega) hB2.size ?_; intro v1 w2 o1 hgr _; replace hb := (o.alloc _).grown_below hB2 (Nat.le_refl _) hgr; clear hgr hB2 o hgr0 ho hB1))
  by_cases h1 : loansB zs = true
  · by_cases h2 : loansB (zs ++ [(p, s)]) = true
    · have hok : lendOk zs p s = true := by simp [lendOk, h1, h2]
      have hp : lendF zs p s = zs ++ [(p, s)] := if_pos hok
      have HK := Lib.hid (And.intro hok hp)
      clear hok hp
      go_wp2_with (fail)
      refine (specLoansOk_b zs _ _ (h.below hb)).mono ?_
      rintro e w3 ⟨rfl, hd⟩
      replace o1 := o1.below hd
      replace hb := bvia hb hd
      clear hd
      go_wp2_with (fail)
      refine (specLoansOk_b _ _ _ o1.rd).mono ?_
      rintro e w4 ⟨rfl, hd⟩
      replace o1 := o1.below hd
      replace hb := bvia hb hd
      clear hd
      go_wp2_with (fail)
      go_ret2
      exact ⟨_, ret_pairB HK.out.1.symm, by rw [HK.out.2]; exact o1, hb⟩
    · have h2' : loansB (zs ++ [(p, s)]) = false := by simpa using h2
      have hok : lendOk zs p s = false := by simp [lendOk, h2']
      have hp : lendF zs p s = zs := if_neg (by simp [hok])
      have HK := Lib.hid (And.intro hok hp)
      clear hp hok h2
      go_wp2_with (fail)
      refine (specLoansOk_b zs _ _ (h.below hb)).mono ?_
      rintro e w3 ⟨rfl, hd⟩
      replace o1 := o1.below hd
      replace hb := bvia hb hd
      clear hd
      go_wp2_with (fail)
      refine (specLoansOk_b _ _ _ o1.rd).mono ?_
      rintro e w4 ⟨rfl, hd⟩
      replace hb := bvia hb hd
      clear hd o1
      have hBx := hb.size
      have hB5 := below_alloc1 w4 (.cells #[] 46)
      have ho5 := OwLoan.empty w4 w4.heap.size (Nat.le_refl _)
      go_wp2_with (at_builtin; refine wpList_appLoan rfl (.tmp 25) (.tmp 26) rfl _ w4.heap.size _ [] rfl ho5 _ zs rfl ((h.below hb).alloc _) (by simp; omega) (by simp) ?_; intro v5 w5 o5 hgr5 _; simp only [List.nil_append] at o5; have hb5 := ho5.grown_below hB5 (Nat.le_refl _) hgr5)
      go_ret2
      exact ⟨_, ret_pairB HK.out.1.symm, by rw [HK.out.2]; exact o5.base hb.size, bvia hb hb5⟩
  · have h1' : loansB zs = false := by simpa using h1
    have hok : lendOk zs p s = false := by simp [lendOk, h1']
    have hp : lendF zs p s = zs := if_neg (by simp [hok])
    have HK := Lib.hid (And.intro hok hp)
    clear hp hok h1
    go_wp2_with (fail)
    refine (specLoansOk_b zs _ _ (h.below hb)).mono ?_
    rintro e w3 ⟨rfl, hd⟩
    replace hb := bvia hb hd
    clear hd o1
    have hBx := hb.size
    have hB5 := below_alloc1 w3 (.cells #[] 46)
    have ho5 := OwLoan.empty w3 w3.heap.size (Nat.le_refl _)
    go_wp2_with (at_builtin; refine wpList_appLoan rfl (.tmp 25) (.tmp 26) rfl _ w3.heap.size _ [] rfl ho5 _ zs rfl ((h.below hb).alloc _) (by simp; omega) (by simp) ?_; intro v5 w5 o5 hgr5 _; simp only [List.nil_append] at o5; have hb5 := ho5.grown_below hB5 (Nat.le_refl _) hgr5)
    go_ret2
    exact ⟨_, ret_pairB HK.out.1.symm, by rw [HK.out.2]; exact o5.base hb.size, bvia hb hb5⟩
theorem walkFnExactLend (zs : List (Int × Int)) (p : Int) (s : Int) (vzs : Value) (w : World) (hzs : RdLoan w vzs zs) : Calls Try.prog 4 #[vzs, .int .i64 p, .int .i64 s] w fun e w' => e = .returned (.bool true) ∧ Below w.heap.size w w' := by
  have hmxzs : zs.length ≤ 9223372036854775807 := by obtain ⟨_, _, _, _, _, h1, h2, _⟩ := hzs.open; omega
  obtain ⟨azs, capzs, rfl⟩ := hzs.shape
  by_cases hlzs : zs.length ≤ 1048576
  · skip
    have hB := Below.refl w.heap.size w
    have hyl : (lendF zs p s).length ≤ 1048577 := Nat.le_trans (lendF_length zs p s) (by omega)
    go_enter Try.func4, Try.ntmps4
    go_wp2_with (fail)
    refine (szLoanS_ok _ _ _ _ (by omega) (by omega) _).mono ?_
    rintro e w' ⟨rfl, rfl⟩
    go_wp2_with (fail)
    refine (toLoanS_any zs (by omega) _ _ (hzs.below hB)).mono ?_
    rintro e w1 ⟨ut0, rfl, ot0, hb⟩
    have bt0 := hB.size
    replace hB := bvia hB hb
    clear hb
    go_wp2_with (fail)
    refine (specLend_any zs p s hlzs _ _ ot0.rd).mono ?_
    rintro e w2 ⟨uw, rfl, ow, hb⟩
    have dt0_w := dis_of ot0.lt ow.lt (Nat.le_refl _)
    have dw_t0 := dis_of' ot0.lt ow.lt (Nat.le_refl _)
    have bw := hB.size
    replace ot0 := ot0.below hb
    replace hB := bvia hB hb
    clear hb
    clear ot0
    go_wp2_with (fail)
    refine (toLoanS_any zs (by omega) _ _ (hzs.below hB)).mono ?_
    rintro e w3 ⟨ux0, rfl, ox0, hb⟩
    have dw_x0 := dis_of ow.lt ox0.lt (Nat.le_refl _)
    have dx0_w := dis_of' ow.lt ox0.lt (Nat.le_refl _)
    have bx0 := hB.size
    replace ow := ow.below hb
    replace hB := bvia hB hb
    clear hb
    go_wp2_with (fail)
    refine (implLend_any zs p s hlzs _ _ ox0.rd).mono ?_
    rintro e w4 ⟨ug, rfl, og, hb⟩
    have dw_g := dis_of ow.lt og.lt (Nat.le_refl _)
    have dg_w := dis_of' ow.lt og.lt (Nat.le_refl _)
    have dx0_g := dis_of ox0.lt og.lt (Nat.le_refl _)
    have dg_x0 := dis_of' ox0.lt og.lt (Nat.le_refl _)
    have bg := hB.size
    replace ow := ow.below hb
    replace ox0 := ox0.below hb
    replace hB := bvia hB hb
    clear hb
    go_wp2_with (fail)
    refine (eqLoanS_any (lendF zs p s) _ _ _ og.rd ow.rd).mono ?_
    rintro e w5 ⟨rfl, hb⟩
    replace ow := ow.below hb
    replace ox0 := ox0.below hb
    replace og := og.below hb
    replace hB := bvia hB hb
    clear hb
    go_wp2_with (fail)
    refine (toLoanS_any zs (by omega) _ _ (hzs.below hB)).mono ?_
    rintro e w6 ⟨uy0, rfl, oy0, hb⟩
    have dw_y0 := dis_of ow.lt oy0.lt (Nat.le_refl _)
    have dy0_w := dis_of' ow.lt oy0.lt (Nat.le_refl _)
    have dx0_y0 := dis_of ox0.lt oy0.lt (Nat.le_refl _)
    have dy0_x0 := dis_of' ox0.lt oy0.lt (Nat.le_refl _)
    have dg_y0 := dis_of og.lt oy0.lt (Nat.le_refl _)
    have dy0_g := dis_of' og.lt oy0.lt (Nat.le_refl _)
    have by0 := hB.size
    replace ow := ow.below hb
    replace ox0 := ox0.below hb
    replace og := og.below hb
    replace hB := bvia hB hb
    clear hb
    go_wp2_with (fail)
    refine (eqLoanS_any zs _ _ _ ox0.rd oy0.rd).mono ?_
    rintro e w7 ⟨rfl, hb⟩
    replace ow := ow.below hb
    replace ox0 := ox0.below hb
    replace og := og.below hb
    replace oy0 := oy0.below hb
    replace hB := bvia hB hb
    clear hb
    clear oy0
    go_wp2_with (fail)
    refine (markLoanS_any zs _ (by omega) (by omega) _ _ _ ox0).mono ?_
    rintro e w8 ⟨rfl, om, hg⟩
    replace ow := ow.kept hg dw_x0
    replace og := og.kept hg dg_x0
    replace hB := ox0.grown_below hB bx0 hg
    clear hg ox0
    have ox0 := om
    clear om
    go_wp2_with (fail)
    refine (eqLoanS_any (lendF zs p s) _ _ _ og.rd ow.rd).mono ?_
    rintro e w9 ⟨rfl, hb⟩
    replace ow := ow.below hb
    replace ox0 := ox0.below hb
    replace og := og.below hb
    replace hB := bvia hB hb
    clear hb
    clear ox0
    go_wp2_with (fail)
    refine (markLoanS_any (lendF zs p s) _ (by omega) (by omega) _ _ _ og).mono ?_
    rintro e w10 ⟨rfl, om, hg⟩
    replace ow := ow.kept hg dw_g
    replace hB := og.grown_below hB bg hg
    clear hg og
    have og := om
    clear om
    go_wp2_with (fail)
    refine (heldLoanS_any (lendF zs p s).length 1 (by omega) (by omega) _ _ og.rd).mono ?_
    rintro e w11 ⟨rfl, rfl⟩
    go_wp2_with (fail)
    refine (toLoanS_any zs (by omega) _ _ (hzs.below hB)).mono ?_
    rintro e w12 ⟨us0, rfl, os0, hb⟩
    have dw_s0 := dis_of ow.lt os0.lt (Nat.le_refl _)
    have ds0_w := dis_of' ow.lt os0.lt (Nat.le_refl _)
    have dg_s0 := dis_of og.lt os0.lt (Nat.le_refl _)
    have ds0_g := dis_of' og.lt os0.lt (Nat.le_refl _)
    have bs0 := hB.size
    replace ow := ow.below hb
    replace og := og.below hb
    replace hB := bvia hB hb
    clear hb
    go_wp2_with (fail)
    refine (implLend_any zs p s hlzs _ _ os0.rd).mono ?_
    rintro e w13 ⟨uh, rfl, oh, hb⟩
    have dw_h := dis_of ow.lt oh.lt (Nat.le_refl _)
    have dh_w := dis_of' ow.lt oh.lt (Nat.le_refl _)
    have dg_h := dis_of og.lt oh.lt (Nat.le_refl _)
    have dh_g := dis_of' og.lt oh.lt (Nat.le_refl _)
    have ds0_h := dis_of os0.lt oh.lt (Nat.le_refl _)
    have dh_s0 := dis_of' os0.lt oh.lt (Nat.le_refl _)
    have bh := hB.size
    replace ow := ow.below hb
    replace og := og.below hb
    replace os0 := os0.below hb
    replace hB := bvia hB hb
    clear hb
    clear os0
    go_wp2_with (fail)
    refine (eqLoanS_any (lendF zs p s) _ _ _ oh.rd ow.rd).mono ?_
    rintro e w14 ⟨rfl, hb⟩
    replace ow := ow.below hb
    replace og := og.below hb
    replace oh := oh.below hb
    replace hB := bvia hB hb
    clear hb
    go_wp2_with (fail)
    refine (heldLoanS_any (lendF zs p s).length 1 (by omega) (by omega) _ _ og.rd).mono ?_
    rintro e w15 ⟨rfl, rfl⟩
    go_wp2_with (fail)
    go_returns
    exact ⟨rfl, hB⟩
  · go_enter Try.func4, Try.ntmps4
    go_wp2_with (fail)
    refine (szLoanS_no _ _ _ (by have := hmxzs; omega) _ (by omega) (by omega) (by omega) _).mono ?_
    rintro e w' ⟨rfl, rfl⟩
    go_wp2_with (fail)
    go_returns
    exact ⟨rfl, Below.refl _ _⟩
end Go.Proofs.Ytgfpnadjkemafaa
