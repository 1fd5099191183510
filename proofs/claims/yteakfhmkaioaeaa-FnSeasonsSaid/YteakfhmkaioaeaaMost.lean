/- The walks of MostShows: as many days as possible. -/
import Derived.Test.YteakfhmkaioaeaaRest
import Derived.Test.YteakfhmkaioaeaaApp
namespace Go.Proofs.Yteakfhmkaioaeaa
open Go.ChangeShapes Go.WideShapes Go.ChangeAt Go.RowKit Go.Joins
set_option linter.unusedSimpArgs false
set_option linter.unusedVariables false

/-- Whether the last number is the day before d. -/
def follows (A : List Int) (d : Int) : Bool := match A.getLast? with | some y => y == d - 1 | none => false
/-- The days taken: what is still to come, what has been taken, how many of it in a row. -/
def mostF (m : Int) : List Int → List Int → Int → List Int
  | [], A, _ => A
  | d :: r, A, n => if follows A d = true then (if n = m then mostF m r A n else mostF m r (A ++ [d]) (n + 1)) else mostF m r (A ++ [d]) 1
theorem mostF_new {m d : Int} (r A : List Int) (n : Int) (h : follows A d = false) : mostF m (d :: r) A n = mostF m r (A ++ [d]) 1 := by simp [mostF, h]
theorem mostF_full {m d : Int} (r A : List Int) (h : follows A d = true) : mostF m (d :: r) A m = mostF m r A m := by simp [mostF, h]
theorem mostF_more {m d : Int} (r A : List Int) (n : Int) (h : follows A d = true) (hn : n ≠ m) : mostF m (d :: r) A n = mostF m r (A ++ [d]) (n + 1) := by simp [mostF, h, hn]
theorem mostF_length (m : Int) (zs A : List Int) (n : Int) : (mostF m zs A n).length ≤ A.length + zs.length := by
  induction zs generalizing A n with
  | nil => simp [mostF]
  | cons d r ih =>
    unfold mostF
    split
    · split
      · have := ih A n; simp; omega
      · have := ih (A ++ [d]) (n + 1); simp at this ⊢; omega
    · have := ih (A ++ [d]) 1; simp at this ⊢; omega
def mostB (zs : List Int) (m : Int) : Bool := seasonB zs && inB m 1 60
def mostShows (zs : List Int) (m : Int) : List Int := if mostB zs m = true then mostF m zs [] 0 else []
theorem mostShows_length (zs : List Int) (m : Int) : (mostShows zs m).length ≤ zs.length := by
  unfold mostShows
  split
  · simpa using mostF_length m zs [] 0
  · simp
theorem follows_last {A : List Int} (h : 0 < A.length) (d : Int) : follows A d = (A.getD (A.length - 1) 0 == d - 1) := by
  unfold follows
  rw [List.getLast?_eq_getElem?, List.getElem?_eq_getElem (by omega)]
  simp [List.getElem?_eq_getElem (show A.length - 1 < A.length by omega)]
set_option maxHeartbeats 800000 in
theorem specMostShows_any (zs : List Int) (m : Int) (v : Value) (w : World) (h : RdI w v zs) :
    Calls Try.prog 35 #[v, .int .i64 m] w fun e w' => ∃ u, e = .returned u ∧ OwI w' w.heap.size u (mostShows zs m) ∧ Below w.heap.size w w' := by
  have hB0 := below_alloc1 w (.cells #[] 3)
  have HE := Lib.hid (OwI.empty w w.heap.size (Nat.le_refl _))
  have HS := Lib.hid (h.below hB0)
  obtain ⟨ad, cap, bl, off, hv, hcap, hmax, had, hc⟩ := h.open
  subst hv
  have HC := Lib.hid hc
  clear h hc
  by_cases hg : mostB zs m = true
  · have hp : mostShows zs m = mostF m zs [] 0 := if_pos hg
    rw [hp]
    clear hp
    obtain ⟨hs, hm⟩ : seasonB zs = true ∧ inB m 1 60 = true := by simpa [mostB] using hg
    obtain ⟨m1, m2⟩ := inB_true.1 hm
    obtain ⟨hl60, hmem, _⟩ := season_mem hs
    have HM := Lib.hid hmem
    clear hmem hg
    go_enter Try.func35, Try.ntmps35
    go_wp2_with (first | (go_at_call 48; refine (l01In_any _ _ _ _).mono ?_; rintro e w' ⟨rfl, rfl⟩) | (go_at_call 15; refine (specSeasonOk_any zs _ _ HS.out).mono ?_; rintro e w1 ⟨rfl, hd⟩))
    go_loopw [5, 6, 7] (fun v n i wr => ∃ (k : Nat) (A : List Int) (r : Int), k ≤ zs.length ∧ i = .int .i64 k ∧ OwI wr w.heap.size v A ∧ A.length ≤ k ∧ n = .int .i64 r ∧ 0 ≤ r ∧ r ≤ k ∧ Below w.heap.size w wr ∧ Hid (mostF m (zs.drop k) A r = mostF m zs [] 0)) (fun _ _ i _ => zs.length - (intOf i).toNat)
    case atStart => exact ⟨0, [], 0, by omega, rfl, HE.out.below hd.below, by simp, rfl, by omega, by omega, bvia hB0 hd.below, rfl⟩
    case round =>
      obtain ⟨k, A, r, hk, rfl, ho, hA, rfl, hr0, hrk, hB, H⟩ := hrel
      obtain ⟨aA, cA, rfl, hcA, hcm, hform⟩ := ho.form
      by_cases hlt : k < zs.length
      · obtain rfl := had (by omega)
        have q1 : (k : Int) < (zs.length : Int) := by omega
        obtain ⟨x, hck, hx, HX⟩ : ∃ x, wr.cell? ⟨bl, off + k, none⟩ = some (.int .i64 x) ∧ (0 ≤ x ∧ x ≤ 365) ∧ Hid (zs.drop k = x :: zs.drop (k + 1)) := ⟨_, cell_on hB (HC.out k hlt), HM.out _ (getD_mem hlt), drop_one hlt⟩
        obtain ⟨x0, x1⟩ := hx
        by_cases hA0 : 0 < A.length
        · obtain ⟨g, rfl, hg1, hg2⟩ := hform hA0
          obtain ⟨y, hcy, HY⟩ : ∃ y, wr.cell? ⟨g, A.length - 1, none⟩ = some (.int .i64 y) ∧ Hid (follows A x = (y == x - 1)) := ⟨_, (ho.cell (by omega)).1, follows_last hA0 x⟩
          clear hform
          by_cases hy : y = x - 1
          · subst hy
            have hf : follows A x = true := by rw [HY.out]; simp
            have HF := Lib.hid hf
            clear hf HY
            have q2 : IntKind.i64.wrap ((A.length : Int) - 1) = (A.length : Int) - 1 := IntWalk.i64_in _ (by omega)
            have q3 : (1 : Int) ≤ (A.length : Int) := by omega
            have q4 : (A.length : Int) - 1 < (A.length : Int) := by omega
            have q5 : ((A.length : Int) - 1).toNat = A.length - 1 := by omega
            have q6 : 1 ≤ A.length := by omega
            have q7 : ((A.length : Int) == 0) = false := beq_eq_false_iff_ne.2 (by omega)
            have q8 : IntKind.i64.wrap (x - 1) = x - 1 := IntWalk.i64_in _ (by omega)
            by_cases hrm : r = m
            · subst hrm
              go_wp2
              go_quiet (fail)
              go_wp2
              exact ⟨⟨k + 1, A, r, by omega, by go_num, ho.drewN _, by omega, rfl, by omega, by omega, hB.trans (below_draws _ _ _), by show _ = _; rw [← H.out, HX.out, mostF_full _ _ HF.out]⟩, by simp [intOf]; omega⟩
            · have q9 : (r == m) = false := beq_eq_false_iff_ne.2 hrm
              go_wp2
              go_quiet (fail)
              go_wp2_with (at_builtin; refine wpList_pushI rfl (.tmp 47) (.tmp 52) rfl _ _ w.heap.size _ _ rfl (ho.drewN _) rfl (by omega) hB.size ?_; intro v1 w1 o1 hgr _; have hB2 := (ho.drewN _).grown_below (hB.trans (below_draws _ _ _)) (Nat.le_refl _) hgr; clear hgr)
              exact ⟨⟨k + 1, A ++ [x], r + 1, by omega, by go_num, o1, by simp; omega, by go_num, by omega, by omega, hB2, by show _ = _; rw [← H.out, HX.out, mostF_more _ _ _ HF.out hrm]⟩, by simp [intOf]; omega⟩
          · have hf : follows A x = false := by rw [HY.out]; exact beq_eq_false_iff_ne.2 hy
            have HF := Lib.hid hf
            clear hf HY
            have q9 : (0 == m) = false := beq_eq_false_iff_ne.2 (by omega)
            have q10 : (y == x - 1) = false := beq_eq_false_iff_ne.2 hy
            have q11 : (y != x - 1) = true := bne_iff_ne.2 hy
            have q2 : IntKind.i64.wrap ((A.length : Int) - 1) = (A.length : Int) - 1 := IntWalk.i64_in _ (by omega)
            have q3 : (1 : Int) ≤ (A.length : Int) := by omega
            have q4 : (A.length : Int) - 1 < (A.length : Int) := by omega
            have q5 : ((A.length : Int) - 1).toNat = A.length - 1 := by omega
            have q6 : 1 ≤ A.length := by omega
            have q7 : ((A.length : Int) == 0) = false := beq_eq_false_iff_ne.2 (by omega)
            have q8 : IntKind.i64.wrap (x - 1) = x - 1 := IntWalk.i64_in _ (by omega)
            go_wp2
            go_quiet (fail)
            go_wp2_with (at_builtin; refine wpList_pushI rfl (.tmp 47) (.tmp 52) rfl _ _ w.heap.size _ _ rfl (ho.drewN _) rfl (by omega) hB.size ?_; intro v1 w1 o1 hgr _; have hB2 := (ho.drewN _).grown_below (hB.trans (below_draws _ _ _)) (Nat.le_refl _) hgr; clear hgr)
            exact ⟨⟨k + 1, A ++ [x], 1, by omega, by go_num, o1, by simp; omega, by go_num, by omega, by omega, hB2, by show _ = _; rw [← H.out, HX.out, mostF_new _ _ _ HF.out]⟩, by simp [intOf]; omega⟩
        · have hA1 : A = [] := List.eq_nil_of_length_eq_zero (by omega)
          subst hA1
          have HF := Lib.hid (show follows [] x = false from rfl)
          clear hform
          have q9 : (0 == m) = false := beq_eq_false_iff_ne.2 (by omega)
          go_wp2
          go_quiet (fail)
          go_wp2_with (at_builtin; refine wpList_pushI rfl (.tmp 47) (.tmp 52) rfl _ _ w.heap.size _ _ rfl (ho.drewN _) rfl (by omega) hB.size ?_; intro v1 w1 o1 hgr _; have hB2 := (ho.drewN _).grown_below (hB.trans (below_draws _ _ _)) (Nat.le_refl _) hgr; clear hgr)
          exact ⟨⟨k + 1, [] ++ [x], 1, by omega, by go_num, o1, by simp, by go_num, by omega, by omega, hB2, by show _ = _; rw [← H.out, HX.out, mostF_new _ _ _ HF.out]⟩, by simp [intOf]; omega⟩
      · go_wp2
        go_ret
        obtain rfl : k = zs.length := by omega
        have e : A = mostF m zs [] 0 := by rw [← H.out, List.drop_length]; rfl
        exact ⟨_, rfl, by rw [← e]; exact ho, hB⟩
  · have hp : mostShows zs m = [] := if_neg hg
    rw [hp]
    clear hp
    have hg' : ¬ (seasonB zs = true ∧ inB m 1 60 = true) := by simpa [mostB] using hg
    clear hg
    go_enter Try.func35, Try.ntmps35
    go_wp2_with (first | (go_at_call 48; refine (l01In_any _ _ _ _).mono ?_; rintro e w' ⟨rfl, rfl⟩) | (go_at_call 15; refine (specSeasonOk_any zs _ _ HS.out).mono ?_; rintro e w1 ⟨rfl, hd⟩))
    all_goals first | (go_ret; first | exact ⟨_, rfl, HE.out.below hd.below, bvia hB0 hd.below⟩ | exact ⟨_, rfl, OwI.nil _ _, hd.below⟩) | (exfalso; simp_all; done)
set_option maxHeartbeats 800000 in
theorem implMostShows_any (zs : List Int) (m : Int) (v : Value) (w : World) (h : RdI w v zs) :
    Calls Try.prog 36 #[v, .int .i64 m] w fun e w' => ∃ u, e = .returned u ∧ OwI w' w.heap.size u (mostShows zs m) ∧ Below w.heap.size w w' := by
  have hB0 := below_alloc1 w (.cells #[] 3)
  have HE := Lib.hid (OwI.empty w w.heap.size (Nat.le_refl _))
  have HS := Lib.hid h
  obtain ⟨ad, cap, bl, off, hv, hcap, hmax, had, hc⟩ := h.open
  subst hv
  have HC := Lib.hid hc
  clear h hc
  by_cases hg : mostB zs m = true
  · have hp : mostShows zs m = mostF m zs [] 0 := if_pos hg
    rw [hp]
    clear hp
    obtain ⟨hs, hm⟩ : seasonB zs = true ∧ inB m 1 60 = true := by simpa [mostB] using hg
    obtain ⟨m1, m2⟩ := inB_true.1 hm
    obtain ⟨hl60, hmem, _⟩ := season_mem hs
    have HM := Lib.hid hmem
    clear hmem hg
    go_enter Try.func36, Try.ntmps36
    go_wp2_with (first | (go_at_call 50; refine (within_any _ _ _ _).mono ?_; rintro e w' ⟨rfl, rfl⟩) | (go_at_call 17; refine (implSeasonOk_any zs _ _ HS.out).mono ?_; rintro e w1 ⟨rfl, hd⟩))
    go_loopw [5, 6, 21] (fun v n i wr => ∃ (k : Nat) (A : List Int) (r : Int), k ≤ zs.length ∧ i = .int .i64 k ∧ OwI wr w.heap.size v A ∧ A.length ≤ k ∧ n = .int .i64 r ∧ 0 ≤ r ∧ r ≤ k ∧ Below w.heap.size w wr ∧ Hid (mostF m (zs.drop k) A r = mostF m zs [] 0)) (fun _ _ i _ => zs.length - (intOf i).toNat)
    case atStart => exact ⟨0, [], 0, by omega, rfl, OwI.empty _ _ hd.below.size, by simp, rfl, by omega, by omega, hd.below.alloc hd.below.size _, rfl⟩
    case round =>
      obtain ⟨k, A, r, hk, rfl, ho, hA, rfl, hr0, hrk, hB, H⟩ := hrel
      obtain ⟨aA, cA, rfl, hcA, hcm, hform⟩ := ho.form
      by_cases hlt : k < zs.length
      · obtain rfl := had (by omega)
        have q1 : (k : Int) < (zs.length : Int) := by omega
        obtain ⟨x, hck, hx, HX⟩ : ∃ x, wr.cell? ⟨bl, off + k, none⟩ = some (.int .i64 x) ∧ (0 ≤ x ∧ x ≤ 365) ∧ Hid (zs.drop k = x :: zs.drop (k + 1)) := ⟨_, cell_on hB (HC.out k hlt), HM.out _ (getD_mem hlt), drop_one hlt⟩
        obtain ⟨x0, x1⟩ := hx
        by_cases hA0 : 0 < A.length
        · obtain ⟨g, rfl, hg1, hg2⟩ := hform hA0
          obtain ⟨y, hcy, HY⟩ : ∃ y, wr.cell? ⟨g, A.length - 1, none⟩ = some (.int .i64 y) ∧ Hid (follows A x = (y == x - 1)) := ⟨_, (ho.cell (by omega)).1, follows_last hA0 x⟩
          clear hform
          by_cases hy : y = x - 1
          · subst hy
            have hf : follows A x = true := by rw [HY.out]; simp
            have HF := Lib.hid hf
            clear hf HY
            have q2 : IntKind.i64.wrap ((A.length : Int) - 1) = (A.length : Int) - 1 := IntWalk.i64_in _ (by omega)
            have q3 : (1 : Int) ≤ (A.length : Int) := by omega
            have q4 : (A.length : Int) - 1 < (A.length : Int) := by omega
            have q5 : ((A.length : Int) - 1).toNat = A.length - 1 := by omega
            have q6 : 1 ≤ A.length := by omega
            have q7 : ((A.length : Int) == 0) = false := beq_eq_false_iff_ne.2 (by omega)
            have q8 : IntKind.i64.wrap (x - 1) = x - 1 := IntWalk.i64_in _ (by omega)
            by_cases hrm : r = m
            · subst hrm
              go_wp2
              exact ⟨⟨k + 1, A, r, by omega, by go_num, ho, by omega, rfl, by omega, by omega, hB, by show _ = _; rw [← H.out, HX.out, mostF_full _ _ HF.out]⟩, by simp [intOf]; omega⟩
            · have q9 : (r == m) = false := beq_eq_false_iff_ne.2 hrm
              go_wp2_with (at_builtin; refine wpList_pushI rfl (.tmp 44) (.tmp 46) rfl _ _ w.heap.size _ _ rfl ho rfl (by omega) hB.size ?_; intro v1 w1 o1 hgr _; have hB2 := ho.grown_below hB (Nat.le_refl _) hgr; clear hgr)
              exact ⟨⟨k + 1, A ++ [x], r + 1, by omega, by go_num, o1, by simp; omega, by go_num, by omega, by omega, hB2, by show _ = _; rw [← H.out, HX.out, mostF_more _ _ _ HF.out hrm]⟩, by simp [intOf]; omega⟩
          · have hf : follows A x = false := by rw [HY.out]; exact beq_eq_false_iff_ne.2 hy
            have HF := Lib.hid hf
            clear hf HY
            have q9 : (0 == m) = false := beq_eq_false_iff_ne.2 (by omega)
            have q10 : (y == x - 1) = false := beq_eq_false_iff_ne.2 hy
            have q11 : (y != x - 1) = true := bne_iff_ne.2 hy
            have q2 : IntKind.i64.wrap ((A.length : Int) - 1) = (A.length : Int) - 1 := IntWalk.i64_in _ (by omega)
            have q3 : (1 : Int) ≤ (A.length : Int) := by omega
            have q4 : (A.length : Int) - 1 < (A.length : Int) := by omega
            have q5 : ((A.length : Int) - 1).toNat = A.length - 1 := by omega
            have q6 : 1 ≤ A.length := by omega
            have q7 : ((A.length : Int) == 0) = false := beq_eq_false_iff_ne.2 (by omega)
            have q8 : IntKind.i64.wrap (x - 1) = x - 1 := IntWalk.i64_in _ (by omega)
            go_wp2_with (at_builtin; refine wpList_pushI rfl (.tmp 44) (.tmp 46) rfl _ _ w.heap.size _ _ rfl ho rfl (by omega) hB.size ?_; intro v1 w1 o1 hgr _; have hB2 := ho.grown_below hB (Nat.le_refl _) hgr; clear hgr)
            exact ⟨⟨k + 1, A ++ [x], 1, by omega, by go_num, o1, by simp; omega, by go_num, by omega, by omega, hB2, by show _ = _; rw [← H.out, HX.out, mostF_new _ _ _ HF.out]⟩, by simp [intOf]; omega⟩
        · have hA1 : A = [] := List.eq_nil_of_length_eq_zero (by omega)
          subst hA1
          have HF := Lib.hid (show follows [] x = false from rfl)
          clear hform
          have q9 : (0 == m) = false := beq_eq_false_iff_ne.2 (by omega)
          go_wp2_with (at_builtin; refine wpList_pushI rfl (.tmp 44) (.tmp 46) rfl _ _ w.heap.size _ _ rfl ho rfl (by omega) hB.size ?_; intro v1 w1 o1 hgr _; have hB2 := ho.grown_below hB (Nat.le_refl _) hgr; clear hgr)
          exact ⟨⟨k + 1, [] ++ [x], 1, by omega, by go_num, o1, by simp, by go_num, by omega, by omega, hB2, by show _ = _; rw [← H.out, HX.out, mostF_new _ _ _ HF.out]⟩, by simp [intOf]; omega⟩
      · go_wp2
        go_ret
        obtain rfl : k = zs.length := by omega
        have e : A = mostF m zs [] 0 := by rw [← H.out, List.drop_length]; rfl
        exact ⟨_, rfl, by rw [← e]; exact ho, hB⟩
  · have hp : mostShows zs m = [] := if_neg hg
    rw [hp]
    clear hp
    have hg' : ¬ (seasonB zs = true ∧ inB m 1 60 = true) := by simpa [mostB] using hg
    clear hg
    go_enter Try.func36, Try.ntmps36
    go_wp2_with (first | (go_at_call 50; refine (within_any _ _ _ _).mono ?_; rintro e w' ⟨rfl, rfl⟩) | (go_at_call 17; refine (implSeasonOk_any zs _ _ HS.out).mono ?_; rintro e w1 ⟨rfl, hd⟩))
    all_goals first | (go_ret; first | exact ⟨_, rfl, HE.out.below hd.below, bvia hB0 hd.below⟩ | exact ⟨_, rfl, OwI.nil _ _, hd.below⟩) | (exfalso; simp_all; done)
theorem walkFnExactMostShows (zs : List Int) (m : Int) (vzs : Value) (w : World) (hzs : RdI w vzs zs) : Calls Try.prog 11 #[vzs, .int .i64 m] w fun e w' => e = .returned (.bool true) ∧ Below w.heap.size w w' := by
  obtain ⟨azs, capzs, rfl⟩ := hzs.shape
  by_cases hlzs : zs.length ≤ 1048576
  · skip
    have hB := Below.refl w.heap.size w
    have hyl : (mostShows zs m).length ≤ 1048576 := Nat.le_trans (mostShows_length zs m) hlzs
    go_enter Try.func11, Try.ntmps11
    go_wp2_with (fail)
    refine (toIntS_any zs hlzs _ _ (hzs.below hB)).mono ?_
    rintro e w1 ⟨ut0, rfl, ot0, hb⟩
    have bt0 := hB.size
    replace hB := bvia hB hb
    clear hb
    go_wp2_with (fail)
    refine (specMostShows_any zs m  _ _ ot0.rd).mono ?_
    rintro e w2 ⟨uw, rfl, ow, hb⟩
    have dt0_w := ot0.dis ow (Nat.le_refl _)
    have dw_t0 := ot0.dis' ow (Nat.le_refl _)
    have bw := hB.size
    replace ot0 := ot0.below hb
    replace hB := bvia hB hb
    clear hb
    clear ot0
    go_wp2_with (fail)
    refine (toIntS_any zs hlzs _ _ (hzs.below hB)).mono ?_
    rintro e w3 ⟨ux0, rfl, ox0, hb⟩
    have dw_x0 := ow.dis ox0 (Nat.le_refl _)
    have dx0_w := ow.dis' ox0 (Nat.le_refl _)
    have bx0 := hB.size
    replace ow := ow.below hb
    replace hB := bvia hB hb
    clear hb
    go_wp2_with (fail)
    refine (implMostShows_any zs m  _ _ ox0.rd).mono ?_
    rintro e w4 ⟨ug, rfl, og, hb⟩
    have dw_g := ow.dis og (Nat.le_refl _)
    have dg_w := ow.dis' og (Nat.le_refl _)
    have dx0_g := ox0.dis og (Nat.le_refl _)
    have dg_x0 := ox0.dis' og (Nat.le_refl _)
    have bg := hB.size
    replace ow := ow.below hb
    replace ox0 := ox0.below hb
    replace hB := bvia hB hb
    clear hb
    go_wp2_with (fail)
    refine (eqIntS_any (mostShows zs m) _ _ _ og.rd ow.rd).mono ?_
    rintro e w5 ⟨rfl, hd⟩
    have hb := hd.below; clear hd
    replace ow := ow.below hb
    replace ox0 := ox0.below hb
    replace og := og.below hb
    replace hB := bvia hB hb
    clear hb
    go_wp2_with (fail)
    refine (toIntS_any zs hlzs _ _ (hzs.below hB)).mono ?_
    rintro e w6 ⟨uy0, rfl, oy0, hb⟩
    have dw_y0 := ow.dis oy0 (Nat.le_refl _)
    have dy0_w := ow.dis' oy0 (Nat.le_refl _)
    have dx0_y0 := ox0.dis oy0 (Nat.le_refl _)
    have dy0_x0 := ox0.dis' oy0 (Nat.le_refl _)
    have dg_y0 := og.dis oy0 (Nat.le_refl _)
    have dy0_g := og.dis' oy0 (Nat.le_refl _)
    have by0 := hB.size
    replace ow := ow.below hb
    replace ox0 := ox0.below hb
    replace og := og.below hb
    replace hB := bvia hB hb
    clear hb
    go_wp2_with (fail)
    refine (eqIntS_any zs _ _ _ ox0.rd oy0.rd).mono ?_
    rintro e w7 ⟨rfl, hd⟩
    have hb := hd.below; clear hd
    replace ow := ow.below hb
    replace ox0 := ox0.below hb
    replace og := og.below hb
    replace oy0 := oy0.below hb
    replace hB := bvia hB hb
    clear hb
    clear oy0
    go_wp2_with (fail)
    refine (markIntS_any zs _ (by omega) (by omega) _ _ _ ox0).mono ?_
    rintro e w8 ⟨rfl, om, hg⟩
    replace ow := ow.kept hg dw_x0
    replace og := og.kept hg dg_x0
    replace hB := below_mark hB ox0 bx0 hg
    clear hg ox0
    have ox0 := om
    clear om
    go_wp2_with (fail)
    refine (eqIntS_any (mostShows zs m) _ _ _ og.rd ow.rd).mono ?_
    rintro e w9 ⟨rfl, hd⟩
    have hb := hd.below; clear hd
    replace ow := ow.below hb
    replace ox0 := ox0.below hb
    replace og := og.below hb
    replace hB := bvia hB hb
    clear hb
    clear ox0
    go_wp2_with (fail)
    refine (markIntS_any (mostShows zs m) _ (by omega) (by omega) _ _ _ og).mono ?_
    rintro e w10 ⟨rfl, om, hg⟩
    replace ow := ow.kept hg dw_g
    replace hB := below_mark hB og bg hg
    clear hg og
    have og := om
    clear om
    go_wp2_with (fail)
    refine (heldIntS_any (mostShows zs m).length 1 (by omega) (by omega) _ _ og.rd).mono ?_
    rintro e w11 ⟨rfl, rfl⟩
    go_wp2_with (fail)
    refine (toIntS_any zs hlzs _ _ (hzs.below hB)).mono ?_
    rintro e w12 ⟨us0, rfl, os0, hb⟩
    have dw_s0 := ow.dis os0 (Nat.le_refl _)
    have ds0_w := ow.dis' os0 (Nat.le_refl _)
    have dg_s0 := og.dis os0 (Nat.le_refl _)
    have ds0_g := og.dis' os0 (Nat.le_refl _)
    have bs0 := hB.size
    replace ow := ow.below hb
    replace og := og.below hb
    replace hB := bvia hB hb
    clear hb
    go_wp2_with (fail)
    refine (implMostShows_any zs m  _ _ os0.rd).mono ?_
    rintro e w13 ⟨uh, rfl, oh, hb⟩
    have dw_h := ow.dis oh (Nat.le_refl _)
    have dh_w := ow.dis' oh (Nat.le_refl _)
    have dg_h := og.dis oh (Nat.le_refl _)
    have dh_g := og.dis' oh (Nat.le_refl _)
    have ds0_h := os0.dis oh (Nat.le_refl _)
    have dh_s0 := os0.dis' oh (Nat.le_refl _)
    have bh := hB.size
    replace ow := ow.below hb
    replace og := og.below hb
    replace os0 := os0.below hb
    replace hB := bvia hB hb
    clear hb
    clear os0
    go_wp2_with (fail)
    refine (eqIntS_any (mostShows zs m) _ _ _ oh.rd ow.rd).mono ?_
    rintro e w14 ⟨rfl, hd⟩
    have hb := hd.below; clear hd
    replace ow := ow.below hb
    replace og := og.below hb
    replace oh := oh.below hb
    replace hB := bvia hB hb
    clear hb
    go_wp2_with (fail)
    refine (heldIntS_any (mostShows zs m).length 1 (by omega) (by omega) _ _ og.rd).mono ?_
    rintro e w15 ⟨rfl, rfl⟩
    go_wp2_with (fail)
    go_returns
    exact ⟨rfl, hB⟩
  · go_enter Try.func11, Try.ntmps11
    go_wp2_with (fail)
    go_returns
    exact ⟨rfl, Below.refl _ _⟩
end Go.Proofs.Yteakfhmkaioaeaa
