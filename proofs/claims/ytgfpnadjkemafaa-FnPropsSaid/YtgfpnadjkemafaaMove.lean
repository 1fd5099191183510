/- The walks of MovePropsTo: the loans of a scene go to another one. -/
import Derived.Test.YtgfpnadjkemafaaLend
namespace Go.Proofs.Ytgfpnadjkemafaa
open Go.ChangeShapes Go.WideShapes Go.ChangeAt Go.RowKit Go.Joins
set_option linter.unusedSimpArgs false
set_option linter.unusedVariables false

theorem ret_pairI {u : Value} {a b : Int} (h : a = b) : Ending.returned (.tuple #[u, .int .i64 a]) = .returned (.tuple #[u, .int .i64 b]) := by rw [h]
def moveF (a b : Int) (zs : List (Int × Int)) : List (Int × Int) := zs.map fun x => if x.2 = a then (x.1, b) else x
theorem moveF_length (a b : Int) (zs : List (Int × Int)) : (moveF a b zs).length = zs.length := by simp [moveF]
def movN (a : Int) : List (Int × Int) → Int
  | [] => 0
  | x :: r => (if x.2 = a then 1 else 0) + movN a r
theorem movN_hit {a : Int} {x : Int × Int} (r : List (Int × Int)) (h : x.2 = a) : movN a (x :: r) = 1 + movN a r := by simp [movN, h]
theorem movN_miss {a : Int} {x : Int × Int} (r : List (Int × Int)) (h : x.2 ≠ a) : movN a (x :: r) = movN a r := by simp [movN, h]
def movOk (a b : Int) (zs : List (Int × Int)) : Bool := loansB zs && loansB (moveF a b zs)
def movL (a b : Int) (zs : List (Int × Int)) : List (Int × Int) := if movOk a b zs = true then moveF a b zs else zs
def movR (a b : Int) (zs : List (Int × Int)) : Int := if movOk a b zs = true then movN a zs else -1
theorem movL_length (a b : Int) (zs : List (Int × Int)) : (movL a b zs).length = zs.length := by
  unfold movL
  split
  · exact moveF_length a b zs
  · rfl
theorem mov_mid (a b : Int) {zs : List (Int × Int)} {k : Nat} {x : Int × Int} (h : zs[k]? = some x) : moveF a b (zs.take k) ++ zs.drop k = moveF a b (zs.take k) ++ x :: zs.drop (k + 1) := by rw [drop_get? h]
theorem mov_at (a b : Int) {zs : List (Int × Int)} {k : Nat} {x : Int × Int} (h : zs[k]? = some x) : (moveF a b (zs.take k) ++ zs.drop k).getD k (0, 0) = x := by
  have hk := (List.getElem?_eq_some_iff.1 h).1
  have hl : (moveF a b (zs.take k)).length = k := by rw [moveF_length, List.length_take]; omega
  rw [List.getD_eq_getElem?_getD, List.getElem?_append_right (by omega), hl, Nat.sub_self, drop_get? h]
  rfl
theorem mov_hit (a b : Int) {zs : List (Int × Int)} {k : Nat} {x0 x1 : Int} (h : zs[k]? = some (x0, x1)) (hx : x1 = a) : (moveF a b (zs.take k) ++ zs.drop k).set k (x0, b) = moveF a b (zs.take (k + 1)) ++ zs.drop (k + 1) := by
  have hk := (List.getElem?_eq_some_iff.1 h).1
  have hl : (moveF a b (zs.take k)).length = k := by rw [moveF_length, List.length_take]; omega
  rw [List.set_append_right _ _ (by omega), hl, Nat.sub_self, drop_get? h, List.set_cons_zero, take_get? h]
  simp [moveF, hx]
theorem mov_miss (a b : Int) {zs : List (Int × Int)} {k : Nat} {x0 x1 : Int} (h : zs[k]? = some (x0, x1)) (hx : x1 ≠ a) : moveF a b (zs.take k) ++ zs.drop k = moveF a b (zs.take (k + 1)) ++ zs.drop (k + 1) := by
  rw [drop_get? h, take_get? h]
  simp [moveF, hx]
set_option maxHeartbeats 800000 in
theorem implMovePropsTo_any (zs : List (Int × Int)) (a b : Int) (hn : zs.length ≤ 1048576) (v : Value) (w : World) (h : RdLoan w v zs) :
    Calls Try.prog 22 #[v, .int .i64 a, .int .i64 b] w fun e w' => ∃ u, e = .returned (.tuple #[u, .int .i64 (movR a b zs)]) ∧ OwLoan w' w.heap.size u (movL a b zs) ∧ Below w.heap.size w w' := by
  go_enter Try.func22, Try.ntmps22
  go_wp2_with (fail)
  refine (copyLoans_any zs hn _ _ h).mono ?_
  rintro e w1 ⟨u, rfl, o1, hb⟩
  obtain ⟨A, cap, rfl, hcap, hmax, had⟩ := o1.form
  have HO : Hid (OwLoan w1 w.heap.size (.slice A zs.length cap) (moveF a b (zs.take 0) ++ zs.drop 0)) := o1
  clear o1
  go_wp2_with (fail)
  go_loopw [9, 15] (fun n i wr => ∃ (k : Nat) (q : Int), k ≤ zs.length ∧ i = .int .i64 k ∧ n = .int .i64 q ∧ 0 ≤ q ∧ q ≤ k ∧ Below w.heap.size w wr ∧ Hid (OwLoan wr w.heap.size (.slice A zs.length cap) (moveF a b (zs.take k) ++ zs.drop k)) ∧ Hid (q + movN a (zs.drop k) = movN a zs)) (fun _ i _ => zs.length - (intOf i).toNat)
  case atStart => exact ⟨0, 0, Nat.zero_le _, rfl, rfl, by omega, by omega, hb, HO.out, by show _ = _; simp⟩
  case round =>
    obtain ⟨k, q, hk, rfl, rfl, q0, q1, hB, HW, H⟩ := hrel
    by_cases hlt : k < zs.length
    · obtain ⟨g, rfl, hg, hgw⟩ := had (by omega)
      obtain ⟨⟨x0, x1⟩, hx⟩ : ∃ x, zs[k]? = some x := ⟨_, List.getElem?_eq_getElem hlt⟩
      have hkc : k < (moveF a b (zs.take k) ++ zs.drop k).length := by rw [List.length_append, moveF_length, List.length_take, List.length_drop]; omega
      obtain ⟨hd0, hd1, hfz⟩ := HW.out.cell hkc
      rw [mov_at a b hx] at hd0 hd1
      have hf1 := hfz (k * 2 + 1)
      dsimp only at hd0 hd1
      by_cases hxa : x1 = a
      · have hp := HW.out.set1 hkc b
        rw [mov_at a b hx, mov_hit a b hx hxa] at hp
        have hB2 := HW.out.grown_below hB (Nat.le_refl _) hp.2
        have H2 : Hid (OwLoan (wr.setCell ⟨g, k * 2 + 1, none⟩ (.int .i64 b)) w.heap.size (.slice (some ⟨g, 0, none⟩) zs.length cap) (moveF a b (zs.take (k + 1)) ++ zs.drop (k + 1))) := hp.1
        have HQ : Hid (q + 1 + movN a (zs.drop (k + 1)) = movN a zs) := by show _ = _; rw [← H.out, drop_get? hx, movN_hit (x := (x0, x1)) _ hxa]; omega
        clear hp hx hfz hkc
        subst hxa
        go_wp2
        exact ⟨⟨k + 1, q + 1, by omega, by go_num, by go_num, by omega, by omega, hB2, H2, HQ⟩, by simp [intOf]; omega⟩
      · have hxb : (x1 == a) = false := beq_eq_false_iff_ne.2 hxa
        have hm := mov_miss a b hx hxa
        have H2 : Hid (OwLoan wr w.heap.size (.slice (some ⟨g, 0, none⟩) zs.length cap) (moveF a b (zs.take (k + 1)) ++ zs.drop (k + 1))) := by have := HW.out; rw [hm] at this; exact this
        have HQ : Hid (q + movN a (zs.drop (k + 1)) = movN a zs) := by show _ = _; rw [← H.out, drop_get? hx, movN_miss (x := (x0, x1)) _ hxa]
        clear hm hx hfz hkc
        go_wp2
        exact ⟨⟨k + 1, q, by omega, by go_num, rfl, by omega, by omega, hB, H2, HQ⟩, by simp [intOf]; omega⟩
    · obtain rfl : k = zs.length := by omega
      have o : OwLoan wr w.heap.size (.slice A zs.length cap) (moveF a b zs) := by simpa using HW.out
      have hq : q = movN a zs := by rw [← H.out, List.drop_length]; simp [movN]
      subst hq
      clear HW H HO
      replace hb := hB
      clear hB
      by_cases h1 : loansB zs = true
      · by_cases h2 : loansB (moveF a b zs) = true
        · have hok : movOk a b zs = true := by simp [movOk, h1, h2]
          have HK := Lib.hid (And.intro (show movR a b zs = movN a zs from if_pos hok) (show movL a b zs = moveF a b zs from if_pos hok))
          clear hok
          go_wp2_with (fail)
          refine (implLoansOk_any zs _ _ (h.below hb)).mono ?_
          rintro e w3 ⟨rfl, hd⟩
          replace o := o.below hd
          replace hb := bvia hb hd
          clear hd
          go_wp2_with (fail)
          refine (implLoansOk_any _ _ _ o.rd).mono ?_
          rintro e w4 ⟨rfl, hd⟩
          replace hb := bvia hb hd
          replace o := o.below hd
          clear hd
          go_wp2_with (fail)
          go_ret2
          exact ⟨_, ret_pairI HK.out.1.symm, by rw [HK.out.2]; exact o, hb⟩
        · have h2' : loansB (moveF a b zs) = false := by simpa using h2
          have hok : ¬ movOk a b zs = true := by simp [movOk, h2']
          have HK := Lib.hid (And.intro (show movR a b zs = -1 from if_neg hok) (show movL a b zs = zs from if_neg hok))
          clear hok h2
          go_wp2_with (fail)
          refine (implLoansOk_any zs _ _ (h.below hb)).mono ?_
          rintro e w3 ⟨rfl, hd⟩
          replace o := o.below hd
          replace hb := bvia hb hd
          clear hd
          go_wp2_with (fail)
          refine (implLoansOk_any _ _ _ o.rd).mono ?_
          rintro e w4 ⟨rfl, hd⟩
          replace hb := bvia hb hd
          clear hd o
          go_wp2_with (fail)
          refine (copyLoans_any zs hn _ _ (h.below hb)).mono ?_
          rintro e w5 ⟨u5, rfl, o5, hb5⟩
          go_wp2_with (fail)
          go_ret2
          exact ⟨_, ret_pairI HK.out.1.symm, by rw [HK.out.2]; exact o5.base hb.size, bvia hb hb5⟩
      · have h1' : loansB zs = false := by simpa using h1
        have hok : ¬ movOk a b zs = true := by simp [movOk, h1']
        have HK := Lib.hid (And.intro (show movR a b zs = -1 from if_neg hok) (show movL a b zs = zs from if_neg hok))
        clear hok h1
        go_wp2_with (fail)
        refine (implLoansOk_any zs _ _ (h.below hb)).mono ?_
        rintro e w3 ⟨rfl, hd⟩
        replace o := o.below hd
        replace hb := bvia hb hd
        clear hd
        clear o
        go_wp2_with (fail)
        refine (copyLoans_any zs hn _ _ (h.below hb)).mono ?_
        rintro e w5 ⟨u5, rfl, o5, hb5⟩
        go_wp2_with (fail)
        go_ret2
        exact ⟨_, ret_pairI HK.out.1.symm, by rw [HK.out.2]; exact o5.base hb.size, bvia hb hb5⟩

set_option maxHeartbeats 800000 in
theorem specMovePropsTo_any (zs : List (Int × Int)) (a b : Int) (hn : zs.length ≤ 1048576) (v : Value) (w : World) (h : RdLoan w v zs) :
    Calls Try.prog 21 #[v, .int .i64 a, .int .i64 b] w fun e w' => ∃ u, e = .returned (.tuple #[u, .int .i64 (movR a b zs)]) ∧ OwLoan w' w.heap.size u (movL a b zs) ∧ Below w.heap.size w w' := by
  go_enter Try.func21, Try.ntmps21
  have hB1 := below_alloc1 w (.cells #[] 46)
  have ho := OwLoan.empty w w.heap.size (Nat.le_refl _)
  go_wp2_with (at_builtin; refine wpList_appLoan rfl (.tmp 11) (.tmp 12) rfl _ w.heap.size _ [] rfl ho _ zs rfl (h.alloc _) (by simp; omega) (by simp) ?_; intro v0 w1 o1 hgr0 _; simp only [List.nil_append] at o1; have hb := ho.grown_below hB1 (Nat.le_refl _) hgr0; clear hgr0 ho hB1; obtain ⟨A, cap, rfl, hcap, hmax, had⟩ := o1.form; have HO : Hid (OwLoan w1 w.heap.size (.slice A zs.length cap) (moveF a b (zs.take 0) ++ zs.drop 0)) := o1; clear o1)
  go_loopw [9, 10] (fun n i wr => ∃ (k : Nat) (q : Int), k ≤ zs.length ∧ i = .int .i64 k ∧ n = .int .i64 q ∧ 0 ≤ q ∧ q ≤ k ∧ Below w.heap.size w wr ∧ Hid (OwLoan wr w.heap.size (.slice A zs.length cap) (moveF a b (zs.take k) ++ zs.drop k)) ∧ Hid (q + movN a (zs.drop k) = movN a zs)) (fun _ i _ => zs.length - (intOf i).toNat)
  case atStart => exact ⟨0, 0, Nat.zero_le _, rfl, rfl, by omega, by omega, hb, HO.out, by show _ = _; simp⟩
  case round =>
    obtain ⟨k, q, hk, rfl, rfl, q0, q1, hB, HW, H⟩ := hrel
    by_cases hlt : k < zs.length
    · obtain ⟨g, rfl, hg, hgw⟩ := had (by omega)
      obtain ⟨⟨x0, x1⟩, hx⟩ : ∃ x, zs[k]? = some x := ⟨_, List.getElem?_eq_getElem hlt⟩
      have hkc : k < (moveF a b (zs.take k) ++ zs.drop k).length := by rw [List.length_append, moveF_length, List.length_take, List.length_drop]; omega
      obtain ⟨hd0, hd1, hfz⟩ := HW.out.cell hkc
      rw [mov_at a b hx] at hd0 hd1
      have hf1 := hfz (k * 2 + 1)
      dsimp only at hd0 hd1
      by_cases hxa : x1 = a
      · have hp := HW.out.set1 hkc b
        rw [mov_at a b hx, mov_hit a b hx hxa] at hp
        have hB2 := HW.out.grown_below hB (Nat.le_refl _) hp.2
        have H2 : Hid (OwLoan (wr.setCell ⟨g, k * 2 + 1, none⟩ (.int .i64 b)) w.heap.size (.slice (some ⟨g, 0, none⟩) zs.length cap) (moveF a b (zs.take (k + 1)) ++ zs.drop (k + 1))) := hp.1
        have HQ : Hid (q + 1 + movN a (zs.drop (k + 1)) = movN a zs) := by show _ = _; rw [← H.out, drop_get? hx, movN_hit (x := (x0, x1)) _ hxa]; omega
        clear hp hx hfz hkc
        subst hxa
        go_wp2
        exact ⟨⟨k + 1, q + 1, by omega, by go_num, by go_num, by omega, by omega, hB2, H2, HQ⟩, by simp [intOf]; omega⟩
      · have hxb : (x1 == a) = false := beq_eq_false_iff_ne.2 hxa
        have hm := mov_miss a b hx hxa
        have H2 : Hid (OwLoan wr w.heap.size (.slice (some ⟨g, 0, none⟩) zs.length cap) (moveF a b (zs.take (k + 1)) ++ zs.drop (k + 1))) := by have := HW.out; rw [hm] at this; exact this
        have HQ : Hid (q + movN a (zs.drop (k + 1)) = movN a zs) := by show _ = _; rw [← H.out, drop_get? hx, movN_miss (x := (x0, x1)) _ hxa]
        clear hm hx hfz hkc
        go_wp2
        exact ⟨⟨k + 1, q, by omega, by go_num, rfl, by omega, by omega, hB, H2, HQ⟩, by simp [intOf]; omega⟩
    · obtain rfl : k = zs.length := by omega
      have o : OwLoan wr w.heap.size (.slice A zs.length cap) (moveF a b zs) := by simpa using HW.out
      have hq : q = movN a zs := by rw [← H.out, List.drop_length]; simp [movN]
      subst hq
      clear HW H HO
      replace hb := hB
      clear hB
      by_cases h1 : loansB zs = true
      · by_cases h2 : loansB (moveF a b zs) = true
        · have hok : movOk a b zs = true := by simp [movOk, h1, h2]
          have HK := Lib.hid (And.intro (show movR a b zs = movN a zs from if_pos hok) (show movL a b zs = moveF a b zs from if_pos hok))
          clear hok
          go_wp2_with (fail)
          refine (specLoansOk_b zs _ _ (h.below hb)).mono ?_
          rintro e w3 ⟨rfl, hd⟩
          replace o := o.below hd
          replace hb := bvia hb hd
          clear hd
          go_wp2_with (fail)
          refine (specLoansOk_b _ _ _ o.rd).mono ?_
          rintro e w4 ⟨rfl, hd⟩
          replace hb := bvia hb hd
          replace o := o.below hd
          clear hd
          go_wp2_with (fail)
          go_ret2
          exact ⟨_, ret_pairI HK.out.1.symm, by rw [HK.out.2]; exact o, hb⟩
        · have h2' : loansB (moveF a b zs) = false := by simpa using h2
          have hok : ¬ movOk a b zs = true := by simp [movOk, h2']
          have HK := Lib.hid (And.intro (show movR a b zs = -1 from if_neg hok) (show movL a b zs = zs from if_neg hok))
          clear hok h2
          go_wp2_with (fail)
          refine (specLoansOk_b zs _ _ (h.below hb)).mono ?_
          rintro e w3 ⟨rfl, hd⟩
          replace o := o.below hd
          replace hb := bvia hb hd
          clear hd
          go_wp2_with (fail)
          refine (specLoansOk_b _ _ _ o.rd).mono ?_
          rintro e w4 ⟨rfl, hd⟩
          replace hb := bvia hb hd
          clear hd o
          have hBx := hb.size
          have hB5 := below_alloc1 w4 (.cells #[] 46)
          have ho5 := OwLoan.empty w4 w4.heap.size (Nat.le_refl _)
          go_wp2_with (at_builtin; refine wpList_appLoan rfl (.tmp 42) (.tmp 43) rfl _ w4.heap.size _ [] rfl ho5 _ zs rfl ((h.below hb).alloc _) (by simp; omega) (by simp) ?_; intro v5 w5 o5 hgr5 _; simp only [List.nil_append] at o5; have hb5 := ho5.grown_below hB5 (Nat.le_refl _) hgr5)
          go_ret2
          exact ⟨_, ret_pairI HK.out.1.symm, by rw [HK.out.2]; exact o5.base hb.size, bvia hb hb5⟩
      · have h1' : loansB zs = false := by simpa using h1
        have hok : ¬ movOk a b zs = true := by simp [movOk, h1']
        have HK := Lib.hid (And.intro (show movR a b zs = -1 from if_neg hok) (show movL a b zs = zs from if_neg hok))
        clear hok h1
        go_wp2_with (fail)
        refine (specLoansOk_b zs _ _ (h.below hb)).mono ?_
        rintro e w3 ⟨rfl, hd⟩
        replace o := o.below hd
        replace hb := bvia hb hd
        clear hd
        clear o
        have hBx := hb.size
        have hB5 := below_alloc1 w3 (.cells #[] 46)
        have ho5 := OwLoan.empty w3 w3.heap.size (Nat.le_refl _)
        go_wp2_with (at_builtin; refine wpList_appLoan rfl (.tmp 42) (.tmp 43) rfl _ w3.heap.size _ [] rfl ho5 _ zs rfl ((h.below hb).alloc _) (by simp; omega) (by simp) ?_; intro v5 w5 o5 hgr5 _; simp only [List.nil_append] at o5; have hb5 := ho5.grown_below hB5 (Nat.le_refl _) hgr5)
        go_ret2
        exact ⟨_, ret_pairI HK.out.1.symm, by rw [HK.out.2]; exact o5.base hb.size, bvia hb hb5⟩

theorem walkFnExactMovePropsTo (zs : List (Int × Int)) (a : Int) (b : Int) (vzs : Value) (w : World) (hzs : RdLoan w vzs zs) : Calls Try.prog 6 #[vzs, .int .i64 a, .int .i64 b] w fun e w' => e = .returned (.bool true) ∧ Below w.heap.size w w' := by
  have hmxzs : zs.length ≤ 9223372036854775807 := by obtain ⟨_, _, _, _, _, h1, h2, _⟩ := hzs.open; omega
  obtain ⟨azs, capzs, rfl⟩ := hzs.shape
  by_cases hlzs : zs.length ≤ 1048576
  · skip
    have hB := Below.refl w.heap.size w
    have hyl : (movL a b zs).length ≤ 1048577 := by rw [movL_length]; omega
    go_enter Try.func6, Try.ntmps6
    go_wp2_with (fail)
    refine (szLoanS_ok _ _ _ _ (by omega) (by omega) _).mono ?_
    rintro e w' ⟨rfl, rfl⟩
    go_wp2_with (fail)
    refine (toLoanS_any zs (by omega) _ _ (hzs.below hB)).mono ?_
    rintro e w1 ⟨ut0, rfl, ot0, hb⟩
    have bt0 := hB.size
    replace hB := bvia hB hb
    clear hb
    go_wp2_with (fail)
    refine (specMovePropsTo_any zs a b hlzs _ _ ot0.rd).mono ?_
    rintro e w2 ⟨uw, rfl, ow, hb⟩
    have dt0_w := dis_of ot0.lt ow.lt (Nat.le_refl _)
    have dw_t0 := dis_of' ot0.lt ow.lt (Nat.le_refl _)
    have bw := hB.size
    replace ot0 := ot0.below hb
    replace hB := bvia hB hb
    clear hb
    clear ot0
    go_wp2_with (fail)
    refine (toLoanS_any zs (by omega) _ _ (hzs.below hB)).mono ?_
    rintro e w3 ⟨ux0, rfl, ox0, hb⟩
    have dw_x0 := dis_of ow.lt ox0.lt (Nat.le_refl _)
    have dx0_w := dis_of' ow.lt ox0.lt (Nat.le_refl _)
    have bx0 := hB.size
    replace ow := ow.below hb
    replace hB := bvia hB hb
    clear hb
    go_wp2_with (fail)
    refine (implMovePropsTo_any zs a b hlzs _ _ ox0.rd).mono ?_
    rintro e w4 ⟨ug, rfl, og, hb⟩
    have dw_g := dis_of ow.lt og.lt (Nat.le_refl _)
    have dg_w := dis_of' ow.lt og.lt (Nat.le_refl _)
    have dx0_g := dis_of ox0.lt og.lt (Nat.le_refl _)
    have dg_x0 := dis_of' ox0.lt og.lt (Nat.le_refl _)
    have bg := hB.size
    replace ow := ow.below hb
    replace ox0 := ox0.below hb
    replace hB := bvia hB hb
    clear hb
    go_wp2_with (fail)
    refine (eqLoanS_any (movL a b zs) _ _ _ og.rd ow.rd).mono ?_
    rintro e w5 ⟨rfl, hb⟩
    replace ow := ow.below hb
    replace ox0 := ox0.below hb
    replace og := og.below hb
    replace hB := bvia hB hb
    clear hb
    go_wp2_with (fail)
    refine (toLoanS_any zs (by omega) _ _ (hzs.below hB)).mono ?_
    rintro e w6 ⟨uy0, rfl, oy0, hb⟩
    have dw_y0 := dis_of ow.lt oy0.lt (Nat.le_refl _)
    have dy0_w := dis_of' ow.lt oy0.lt (Nat.le_refl _)
    have dx0_y0 := dis_of ox0.lt oy0.lt (Nat.le_refl _)
    have dy0_x0 := dis_of' ox0.lt oy0.lt (Nat.le_refl _)
    have dg_y0 := dis_of og.lt oy0.lt (Nat.le_refl _)
    have dy0_g := dis_of' og.lt oy0.lt (Nat.le_refl _)
    have by0 := hB.size
    replace ow := ow.below hb
    replace ox0 := ox0.below hb
    replace og := og.below hb
    replace hB := bvia hB hb
    clear hb
    go_wp2_with (fail)
    refine (eqLoanS_any zs _ _ _ ox0.rd oy0.rd).mono ?_
    rintro e w7 ⟨rfl, hb⟩
    replace ow := ow.below hb
    replace ox0 := ox0.below hb
    replace og := og.below hb
    replace oy0 := oy0.below hb
    replace hB := bvia hB hb
    clear hb
    clear oy0
    go_wp2_with (fail)
    refine (markLoanS_any zs _ (by omega) (by omega) _ _ _ ox0).mono ?_
    rintro e w8 ⟨rfl, om, hg⟩
    replace ow := ow.kept hg dw_x0
    replace og := og.kept hg dg_x0
    replace hB := ox0.grown_below hB bx0 hg
    clear hg ox0
    have ox0 := om
    clear om
    go_wp2_with (fail)
    refine (eqLoanS_any (movL a b zs) _ _ _ og.rd ow.rd).mono ?_
    rintro e w9 ⟨rfl, hb⟩
    replace ow := ow.below hb
    replace ox0 := ox0.below hb
    replace og := og.below hb
    replace hB := bvia hB hb
    clear hb
    clear ox0
    go_wp2_with (fail)
    refine (markLoanS_any (movL a b zs) _ (by omega) (by omega) _ _ _ og).mono ?_
    rintro e w10 ⟨rfl, om, hg⟩
    replace ow := ow.kept hg dw_g
    replace hB := og.grown_below hB bg hg
    clear hg og
    have og := om
    clear om
    go_wp2_with (fail)
    refine (heldLoanS_any (movL a b zs).length 1 (by omega) (by omega) _ _ og.rd).mono ?_
    rintro e w11 ⟨rfl, rfl⟩
    go_wp2_with (fail)
    refine (toLoanS_any zs (by omega) _ _ (hzs.below hB)).mono ?_
    rintro e w12 ⟨us0, rfl, os0, hb⟩
    have dw_s0 := dis_of ow.lt os0.lt (Nat.le_refl _)
    have ds0_w := dis_of' ow.lt os0.lt (Nat.le_refl _)
    have dg_s0 := dis_of og.lt os0.lt (Nat.le_refl _)
    have ds0_g := dis_of' og.lt os0.lt (Nat.le_refl _)
    have bs0 := hB.size
    replace ow := ow.below hb
    replace og := og.below hb
    replace hB := bvia hB hb
    clear hb
    go_wp2_with (fail)
    refine (implMovePropsTo_any zs a b hlzs _ _ os0.rd).mono ?_
    rintro e w13 ⟨uh, rfl, oh, hb⟩
    have dw_h := dis_of ow.lt oh.lt (Nat.le_refl _)
    have dh_w := dis_of' ow.lt oh.lt (Nat.le_refl _)
    have dg_h := dis_of og.lt oh.lt (Nat.le_refl _)
    have dh_g := dis_of' og.lt oh.lt (Nat.le_refl _)
    have ds0_h := dis_of os0.lt oh.lt (Nat.le_refl _)
    have dh_s0 := dis_of' os0.lt oh.lt (Nat.le_refl _)
    have bh := hB.size
    replace ow := ow.below hb
    replace og := og.below hb
    replace os0 := os0.below hb
    replace hB := bvia hB hb
    clear hb
    clear os0
    go_wp2_with (fail)
    refine (eqLoanS_any (movL a b zs) _ _ _ oh.rd ow.rd).mono ?_
    rintro e w14 ⟨rfl, hb⟩
    replace ow := ow.below hb
    replace og := og.below hb
    replace oh := oh.below hb
    replace hB := bvia hB hb
    clear hb
    go_wp2_with (fail)
    refine (heldLoanS_any (movL a b zs).length 1 (by omega) (by omega) _ _ og.rd).mono ?_
    rintro e w15 ⟨rfl, rfl⟩
    go_wp2_with (fail)
    go_returns
    exact ⟨rfl, hB⟩
  · go_enter Try.func6, Try.ntmps6
    go_wp2_with (fail)
    refine (szLoanS_no _ _ _ (by have := hmxzs; omega) _ (by omega) (by omega) (by omega) _).mono ?_
    rintro e w' ⟨rfl, rfl⟩
    go_wp2_with (fail)
    go_returns
    exact ⟨rfl, Below.refl _ _⟩
end Go.Proofs.Ytgfpnadjkemafaa
