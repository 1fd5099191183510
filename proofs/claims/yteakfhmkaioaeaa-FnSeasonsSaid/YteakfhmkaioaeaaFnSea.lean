/- The walk of the law FnSeasons: as many shows as possible keep their rest. -/
import Derived.Test.YteakfhmkaioaeaaFnSeaL
namespace Go.Proofs.Yteakfhmkaioaeaa
open Go.ChangeShapes Go.WideShapes Go.ChangeAt Go.RowKit Go.Joins
set_option linter.unusedSimpArgs false
set_option linter.unusedVariables false

set_option maxHeartbeats 800000 in
theorem l33Days_any (B g : Nat) (w : World) (h : Cur w B g) :
    Calls Try.prog 56 #[.pointer (some ⟨g, 0, none⟩)] w fun e w' => ∃ u, e = .returned u ∧ ∃ zs, OwI w' B u zs ∧ Days zs ∧ Below B w w' := by
  obtain ⟨hBg, hgw⟩ := h.lt'
  have hBw : B ≤ w.heap.size := by omega
  have hc := h.below (below_alloc1 w (.cells #[] 3))
  have hB := (below_alloc1 w (.cells #[] 3)).mono hBw
  have HE := Lib.hid (OwI.empty w w.heap.size (Nat.le_refl _))
  go_enter Try.func56, Try.ntmps56
  go_wp2_with (fail)
  refine (l01Below_any B g 14 (by omega) _ hc).mono ?_
  rintro e w1 ⟨m, rfl, m0, m1, _, hc1, hg⟩
  replace hB := below_cur hB hg hBg (by simp; omega)
  replace HE := Lib.hid (HE.out.kept hg (dis_cur HE.out.lt hgw))
  clear hg hc
  replace m1 := m1 (by omega)
  go_wp2_with (fail)
  go_loopw [3, 4, 6] (fun u q i wr => ∃ (k : Nat) (A : List Int) (z : Int), (k : Int) ≤ m ∧ i = .int .i64 k ∧ q = .int .i64 z ∧ -1 ≤ z ∧ z + 1 ≤ 6 * k ∧ OwI wr w.heap.size u A ∧ A.length = k ∧ Cur wr B g ∧ Below B w wr ∧ Hid (A.Pairwise (· < ·) ∧ ∀ x ∈ A, 0 ≤ x ∧ x ≤ z)) (fun _ _ i _ => (m - intOf i).toNat)
  case atStart => exact ⟨0, [], -1, by omega, rfl, rfl, by omega, by omega, HE.out, rfl, hc1, hB, ⟨List.Pairwise.nil, by simp⟩⟩
  case round =>
    clear HE hB hc1
    obtain ⟨k, A, z, hk, rfl, rfl, z0, z1, ho, hA, hc, hB, HA⟩ := hrel
    have hs := hB.size
    by_cases hlt : (k : Int) < m
    · have hend : ∀ (z2 : Int), z < z2 → 0 ≤ z2 → Hid ((A ++ [z2]).Pairwise (· < ·) ∧ ∀ x ∈ A ++ [z2], 0 ≤ x ∧ x ≤ z2) := by
        intro z2 h1 h2
        refine ⟨?_, fun x hx => ?_⟩
        · rw [List.pairwise_append]
          refine ⟨HA.out.1, by simp, fun a ha b hb => ?_⟩
          simp at hb
          have := HA.out.2 a ha
          omega
        · rcases List.mem_append.1 hx with hx | hx
          · have := HA.out.2 x hx; omega
          · simp at hx; omega
      go_wp2_with (fail)
      refine (l01Once_any B g 3 (by omega) _ hc).mono ?_
      rintro e w2 ⟨b, rfl, hc2, hg⟩
      replace hB := below_cur hB hg hBg (by omega)
      replace ho := ho.kept hg (dis_cur ho.lt hgw)
      clear hg hc
      have hs2 := hB.size
      cases b with
      | true =>
        go_wp2_with (fail)
        refine (l01Below_any B g 6 (by omega) _ hc2).mono ?_
        rintro e w3 ⟨x, rfl, x0, x1, _, hc3, hg⟩
        replace hB := below_cur hB hg hBg (by omega)
        replace ho := ho.kept hg (dis_cur ho.lt hgw)
        clear hg hc2
        have hs3 := hB.size
        replace x1 := x1 (by omega)
        have hbw := (ho.lt)
        go_wp2_with (at_builtin; refine wpList_pushI rfl (.tmp 23) (.tmp 25) rfl _ _ w.heap.size _ _ rfl ho rfl (by omega) (by omega) ?_; intro v1 w4 o1 hgr _; have hB2 := hB.grown hgr (by omega) (fun q hq => by have := (ho.lt q hq).1; omega); have hc4 := hc3.kept hgr (fun q hq => by have := (ho.lt q hq).1; omega) (dis_cur' ho.lt hgw); clear hgr)
        exact ⟨⟨k + 1, A ++ [z + 1 + x], z + 1 + x, by omega, by go_num, rfl, by omega, by omega, o1, by simp [hA], hc4, hB2, hend _ (by omega) (by omega)⟩, by simp [intOf]; omega⟩
      | false =>
        go_wp2_with (at_builtin; refine wpList_pushI rfl (.tmp 23) (.tmp 25) rfl _ _ w.heap.size _ _ rfl ho rfl (by omega) (by omega) ?_; intro v1 w4 o1 hgr _; have hB2 := hB.grown hgr (by omega) (fun q hq => by have := (ho.lt q hq).1; omega); have hc4 := hc2.kept hgr (fun q hq => by have := (ho.lt q hq).1; omega) (dis_cur' ho.lt hgw); clear hgr)
        exact ⟨⟨k + 1, A ++ [z + 1], z + 1, by omega, by go_num, rfl, by omega, by omega, o1, by simp [hA], hc4, hB2, hend _ (by omega) (by omega)⟩, by simp [intOf]; omega⟩
    · go_wp2
      go_ret
      exact ⟨_, rfl, A, ho.base hBw, ⟨by omega, HA.out.1, fun x hx => by have := HA.out.2 x hx; omega⟩, hB⟩
theorem drawDays_any (n : Nat) (v : Value) (w : World) (h : RdB w w.heap.size v n) :
    Calls Try.prog 42 #[v] w fun e w' => ∃ u, e = .returned u ∧ ∃ zs, OwI w' w.heap.size u zs ∧ Days zs ∧ Below w.heap.size w w' := by
  go_enter Try.func42, Try.ntmps42
  go_wp2_with (fail)
  refine (l01New_any n v w h).mono ?_
  rintro e w1 ⟨g, rfl, hc, hb⟩
  go_wp2_with (fail)
  refine (l33Days_any _ g w1 hc).mono ?_
  rintro e w2 ⟨u, rfl, zs, ho, hD, hb2⟩
  go_wp2_with (fail)
  go_ret
  exact ⟨u, rfl, zs, ho, hD, hb.trans hb2⟩
set_option maxRecDepth 20000 in
set_option maxHeartbeats 3200000 in
theorem walkFnSeasons (n : Nat) (v : Value) (w : World) (hr : RdB w w.heap.size v n) : Calls Try.prog 14 #[v] w fun e w' => e = .returned (.bool true) ∧ Below w.heap.size w w' := by
  by_cases hbig : n ≤ 1048576
  · have hbd : decide (1048576 < n) = false := decide_eq_false (by omega)
    have hB := Below.refl w.heap.size w
    go_enter Try.func14, Try.ntmps14
    go_wp2_with (fail)
    refine (big_any n _ _ _ hr).mono ?_
    rintro e w1 ⟨rfl, rfl⟩
    go_wp2_with (fail)
    refine (drawDays_any n _ _ hr).mono ?_
    rintro e w2 ⟨ud, rfl, zs, od, hD, hb⟩
    have zod := hB.size
    replace hr := hr.below hb
    replace hB := bvia hB hb
    clear hb
    go_wp2_with (fail)
    refine (at_any n 0 (by omega) (by omega) _ _ _ hr).mono ?_
    rintro e w3 ⟨x, rfl, x0, x1, hd⟩
    have hb := hd.below; clear hd
    replace hr := hr.below hb
    replace od := od.below hb
    replace hB := bvia hB hb
    clear hb
    clear hr
    obtain ⟨m, hmx⟩ : ∃ m : Nat, 1 + x % 4 = (m : Int) := ⟨(1 + x % 4).toNat, by omega⟩
    have hm : 1 ≤ m := by omega
    have hm4 : m ≤ 4 := by omega
    have hl13 := hD.1
    have HD := Lib.hid hD
    clear hD
    obtain ⟨ad, capd, rfl, hcd, hmd, hfd⟩ := od.form
    go_wp2_with (fail)
    refine (implMostShows_any zs m _ _ od.rd).mono ?_
    rintro e w4 ⟨um, rfl, om, hb⟩
    have zom := hB.size
    replace od := od.below hb
    replace hB := bvia hB hb
    clear hb
    obtain ⟨am, capm, rfl, hcm, hmm, hfm⟩ := om.form
    have hlm := (days_main HD.out hm hm4).1
    have HHAS := Lib.hid (fun k hk => days_has HD.out hm hm4 (k := k) hk)
    have HALL := Lib.hid (days_all HD.out hm hm4)
    go_wp2_with (fail)
    refine (implKeepsRest_any (mostShows zs m) m _ _ om.rd).mono ?_
    rintro e w5 ⟨rfl, hd⟩
    have hb := hd.below; clear hd
    replace od := od.below hb
    replace om := om.below hb
    replace hB := bvia hB hb
    clear hb
    rw [days_keeps HD.out hm hm4]
    generalize mostShows zs m = ms at *
    have hcmp : ¬ (zs.length < ms.length) := by omega
    go_wp2_with (fail)
    refine (implKeepsRest_any zs m _ _ od.rd).mono ?_
    rintro e w6 ⟨rfl, hd⟩
    have hb := hd.below; clear hd
    replace od := od.below hb
    replace om := om.below hb
    replace hB := bvia hB hb
    clear hb
    rw [HALL.out]
    have hbq : ((ms.length : Int) == (zs.length : Int)) = decide (ms.length = zs.length) := by
      by_cases e : ms.length = zs.length
      · rw [e]; simp
      · rw [decide_eq_false e]; exact beq_eq_false_iff_ne.2 (by omega)
    go_wp2_with (fail)
    go_loop [6] (fun i => ∃ k : Nat, k ≤ ms.length ∧ i = .int .i64 k) (fun i => ms.length - (intOf i).toNat)
    case atStart => exact ⟨0, Nat.zero_le _, rfl⟩
    case round =>
      obtain ⟨k, hk, rfl⟩ := hrel
      by_cases hlt : k < ms.length
      · obtain ⟨gm, rfl, _, _⟩ := hfm (by omega)
        have hck := (om.cell hlt).1
        have hhk := HHAS.out k hlt
        generalize ms.getD k 0 = q at hck hhk
        go_wp2_with (fail)
        refine (has_any zs q _ _ od.rd).mono ?_
        rintro e wx ⟨rfl, rfl⟩
        rw [hhk]
        go_wp2_with (fail)
        exact ⟨⟨k + 1, by omega, by go_num⟩, by simp [intOf]; omega⟩
      · go_wp2_with (fail)
        have H13 := hl13
        go_loopw [7, 8, 9] (fun b c i wr => ∃ (k l row : Nat), k ≤ zs.length ∧ i = .int .i64 k ∧ b = .int .i64 l ∧ c = .int .i64 row ∧ row ≤ k ∧ l ≤ 13 * k ∧ Dr w6 wr ∧ Hid (leastF m (prevOf zs k) (zs.drop k) l row = leastF m none zs 0 0)) (fun _ _ i _ => zs.length - (intOf i).toNat)
        case atStart => exact ⟨0, 0, 0, by omega, rfl, rfl, rfl, by omega, by omega, Dr.refl _, rfl⟩
        case round =>
          obtain ⟨k, l, row, hk, rfl, rfl, rfl, hr0, hl0, hDr, H⟩ := hrel
          have hdv := fun a : Nat => Nat.div_le_self a (m + 1)
          have hcast : ∀ a : Nat, ((a : Int) / ((m : Int) + 1)) = ((a / (m + 1) : Nat) : Int) := fun a => by rw [Int.natCast_ediv]; rfl
          have hm0 : ¬ ((m : Int) + 1 = 0) := by omega
          have hm0b : (((m : Int) + 1) == 0) = false := beq_eq_false_iff_ne.2 hm0
          have hdr := hdv row
          have hcr := hcast row
          clear hdv hcast
          obtain ⟨dv, hdv⟩ : ∃ dv, row / (m + 1) = dv := ⟨_, rfl⟩
          rw [hdv] at hcr hdr
          have HDV := Lib.hid hdv
          clear hdv
          by_cases hlt : k < zs.length
          · obtain ⟨gd, rfl, _, _⟩ := hfd (by omega)
            by_cases hk0 : 0 < k
            · obtain ⟨x, y, hck, hcl, hx, hy, HX⟩ : ∃ x y, wr.cell? ⟨gd, k, none⟩ = some (.int .i64 x) ∧ wr.cell? ⟨gd, k - 1, none⟩ = some (.int .i64 y) ∧ (0 ≤ x ∧ x ≤ 200) ∧ (0 ≤ y ∧ y ≤ 200) ∧ Hid (prevOf zs k = some y ∧ zs.drop k = x :: zs.drop (k + 1) ∧ prevOf zs (k + 1) = some x) :=
                ⟨_, _, hDr.cell (od.cell hlt).1, hDr.cell (od.cell (show k - 1 < zs.length by omega)).1, HD.out.2.2 _ (getD_mem hlt), HD.out.2.2 _ (getD_mem (by omega)), prevOf_pos zs hk0, drop_one hlt, prevOf_succ zs k⟩
              obtain ⟨hx0, hx1⟩ := hx
              obtain ⟨hy0, hy1⟩ := hy
              have q1 : (k : Int) < (zs.length : Int) := by omega
              have q2 : IntKind.i64.wrap ((k : Int) - 1) = (k : Int) - 1 := IntWalk.i64_in _ (by omega)
              have q3 : (1 : Int) ≤ (k : Int) := by omega
              have q4 : (k : Int) - 1 < (zs.length : Int) := by omega
              have q5 : ((k : Int) - 1).toNat = k - 1 := by omega
              have q6 : 1 ≤ k := by omega
              by_cases hxy : x = y + 1
              · have hb : (x == y + 1) = true := beq_iff_eq.2 hxy
                go_wp2
                go_quiet (fail)
                go_wp2
                exact ⟨⟨k + 1, l, row + 1, by omega, by go_num, rfl, by go_num, by omega, by omega, hDr.next _, by show _ = _; rw [← H.out, HX.out.1, HX.out.2.1, HX.out.2.2, leastF_hit _ _ _ (congrArg some (by omega))]⟩, by simp [intOf]; omega⟩
              · have hb : (x == y + 1) = false := beq_eq_false_iff_ne.2 hxy
                go_wp2
                go_quiet (fail)
                go_wp2
                exact ⟨⟨k + 1, l + dv, 1, by omega, by go_num, by go_num, rfl, by omega, by omega, hDr.next _, by show _ = _; rw [← HDV.out, ← H.out, HX.out.1, HX.out.2.1, HX.out.2.2, leastF_miss _ _ _ (by intro e; injection e; omega)]⟩, by simp [intOf]; omega⟩
            · obtain rfl : k = 0 := by omega
              have HX : Hid (zs.drop 0 = zs.getD 0 0 :: zs.drop (0 + 1) ∧ prevOf zs (0 + 1) = some (zs.getD 0 0)) := ⟨drop_one hlt, prevOf_succ zs 0⟩
              have q0 : decide (0 < (0 : Int)) = false := rfl
              go_wp2
              go_quiet (fail)
              go_wp2
              exact ⟨⟨1, l + dv, 1, by omega, by go_num, by go_num, rfl, by omega, by omega, hDr.next _, by show leastF m (prevOf zs (0 + 1)) (zs.drop (0 + 1)) _ _ = _; rw [← HDV.out, ← H.out, HX.out.1, HX.out.2, leastF_miss _ _ _ (by simp [prevOf])]⟩, by simp [intOf]; omega⟩
          · have hfin : l + row / (m + 1) = leastF m none zs 0 0 := by
              rw [← H.out, List.drop_eq_nil_of_le (by omega)]
              rfl
            rw [← hfin] at hlm
            clear hfin
            replace od := od.below hDr.below
            replace hB := bvia hB hDr.below
            clear hDr H om hfm HHAS HALL
            go_wp2_with (fail)
            refine (implAddShow_any zs 300 (by omega) _ _ od.rd).mono ?_
            rintro e w7 ⟨ua, rfl, oa, hb⟩
            have zoa := hB.size
            replace od := od.below hb
            replace hB := bvia hB hb
            clear hb
            rw [days_addOk HD.out]
            rw [days_add HD.out] at oa
            go_wp2_with (fail)
            refine (implAddShow_any (zs ++ [300]) 300 (by simp; omega) _ _ oa.rd).mono ?_
            rintro e w8 ⟨ub, rfl, ob, hb⟩
            have zob := hB.size
            replace od := od.below hb
            replace oa := oa.below hb
            replace hB := bvia hB hb
            clear hb
            rw [days_twice HD.out]
            clear ob
            go_wp2_with (fail)
            refine (implLongestRest_any (zs ++ [300]) _ _ oa.rd).mono ?_
            rintro e w9 ⟨rfl, hd⟩
            have hb := hd.below; clear hd
            replace od := od.below hb
            replace oa := oa.below hb
            replace hB := bvia hB hb
            clear hb
            obtain ⟨aa, capa, rfl, hca, hma, hfa⟩ := oa.form
            have HSEA := Lib.hid (days_snoc HD.out)
            have HRUN := Lib.hid (days_run HD.out)
            have hrest := days_rest HD.out
            generalize hR : longestRest (zs ++ [300]) = R at hrest
            have hla : (zs ++ [300]).length = zs.length + 1 := by simp
            have HLA := Lib.hid hla
            clear hla hR
            have hrun := HRUN.out
            have hfl : (ms.length : Int) = (zs.length : Int) - ((l : Int) + (dv : Int)) := by have := HDV.out; omega
            have hb1 : ((ms.length : Int) == (zs.length : Int) - ((l : Int) + (dv : Int))) = true := beq_iff_eq.2 hfl
            have hla := HLA.out
            generalize (zs ++ [300]).length = la at hla hca hfa oa HLA ⊢
            subst hla
            clear HLA
            clear hmx x0 x1 HDV hfa hca hma hcd hmd hcm hmm hlm hr0 hl0 hdr hcr hm0 hm0b
            rcases hrest with ⟨hnil, hR1⟩ | ⟨hpos, hR0, hR2⟩
            · subst hR1
              subst hnil
              obtain rfl : ms = [] := List.eq_nil_of_length_eq_zero (by simp at hfl; omega)
              obtain rfl : l = 0 := by simp at hfl; omega
              obtain rfl : dv = 0 := by simp at hfl; omega
              clear hfl hb1 hfd
              replace od : OwI _ _ (.slice ad 0 capd) [] := od
              replace oa : OwI _ _ (.slice aa 1 capa) [300] := oa
              go_wp2_with (fail)
              refine (implLongestRun_any [] _ _ od.rd).mono ?_
              rintro e w10 ⟨rfl, hd⟩
              have hb := hd.below; clear hd
              replace od := od.below hb
              replace oa := oa.below hb
              replace hB := bvia hB hb
              clear hb
              have hL : 0 ≤ longestRun [] := hrun
              clear hrun HRUN
              generalize longestRun [] = L at hL ⊢
              go_wp2_with (fail)
              refine (btoi_any false _).mono ?_
              rintro e wb ⟨rfl, rfl⟩
              go_wp2_with (fail)
              refine (implSeasonOk_any [300] _ _ oa.rd).mono ?_
              rintro e w11 ⟨rfl, hd⟩
              have hb := hd.below; clear hd
              replace od := od.below hb
              replace oa := oa.below hb
              replace hB := bvia hB hb
              clear hb
              rw [show seasonB [300] = true from HSEA.out]
              go_wp2_with (fail)
              go_returns
              exact ⟨rfl, hB⟩
            · have hz : ((zs.length : Int) == 0) = false := beq_eq_false_iff_ne.2 (by omega)
              have hR1 : (R == -1) = false := beq_eq_false_iff_ne.2 (by omega)
              go_wp2_with (fail)
              refine (implLongestRun_any zs _ _ od.rd).mono ?_
              rintro e w12 ⟨rfl, hd⟩
              have hb := hd.below; clear hd
              replace od := od.below hb
              replace oa := oa.below hb
              replace hB := bvia hB hb
              clear hb
              have hL : 1 ≤ longestRun zs := by simpa [hpos] using hrun
              clear hrun HRUN
              generalize longestRun zs = L at hL ⊢
              have hpz : 0 < (zs.length : Int) := by omega
              go_wp2_with (fail)
              refine (btoi_any true _).mono ?_
              rintro e wb ⟨rfl, rfl⟩
              obtain ⟨gd, rfl, _, _⟩ := hfd hpos
              have hck := (od.cell (show zs.length - 1 < zs.length by omega)).1
              have hy := HD.out.2.2 _ (getD_mem (show zs.length - 1 < zs.length by omega))
              generalize zs.getD (zs.length - 1) 0 = y at hck hy hR2
              obtain ⟨hy0, hy1⟩ := hy
              have q2 : IntKind.i64.wrap ((zs.length : Int) - 1) = (zs.length : Int) - 1 := IntWalk.i64_in _ (by omega)
              have q3 : (1 : Int) ≤ (zs.length : Int) := by omega
              have q4 : (zs.length : Int) - 1 < (zs.length : Int) := by omega
              have q5 : ((zs.length : Int) - 1).toNat = zs.length - 1 := by omega
              have q6 : 1 ≤ zs.length := by omega
              go_wp2_with (fail)
              refine (implSeasonOk_any (zs ++ [300]) _ _ oa.rd).mono ?_
              rintro e w13 ⟨rfl, hd⟩
              have hb := hd.below; clear hd
              replace od := od.below hb
              replace oa := oa.below hb
              replace hB := bvia hB hb
              clear hb
              rw [HSEA.out]
              go_wp2_with (fail)
              go_returns
              exact ⟨rfl, hB⟩
  · have hbd : decide (1048576 < n) = true := decide_eq_true (by omega)
    go_enter Try.func14, Try.ntmps14
    go_wp2_with (fail)
    refine (big_any n _ _ _ hr).mono ?_
    rintro e w1 ⟨rfl, rfl⟩
    go_wp2_with (fail)
    go_returns
    exact ⟨rfl, Below.refl _ _⟩
end Go.Proofs.Yteakfhmkaioaeaa
