/- The walks of AddShow: a day is added to a season. -/
import Derived.Test.YteakfhmkaioaeaaPut
import Derived.Test.YteakfhmkaioaeaaSeason
import Derived.Test.YteakfhmkaioaeaaShare
namespace Go.Proofs.Yteakfhmkaioaeaa
open Go.ChangeShapes Go.WideShapes Go.ChangeAt Go.RowKit Go.Joins
set_option linter.unusedSimpArgs false
set_option linter.unusedVariables false

def addOk (zs : List Int) (d : Int) : Bool := seasonB zs && seasonB (putF d zs)
def addShow (zs : List Int) (d : Int) : List Int := if addOk zs d = true then putF d zs else zs
theorem addShow_length (zs : List Int) (d : Int) : (addShow zs d).length ≤ zs.length + 1 := by
  unfold addShow
  split
  · rw [putF_length]; exact Nat.le_refl _
  · omega
theorem implAddShow_any (zs : List Int) (d : Int) (hn : zs.length ≤ 1048576) (v : Value) (w : World) (h : RdI w v zs) :
    Calls Try.prog 38 #[v, .int .i64 d] w fun e w' => ∃ u, e = .returned (.tuple #[u, .bool (addOk zs d)]) ∧ OwI w' w.heap.size u (addShow zs d) ∧ Below w.heap.size w w' := by
  have HR := Lib.hid h
  clear h
  by_cases h1 : seasonB zs = true
  · by_cases h2 : seasonB (putF d zs) = true
    · have hok : addOk zs d = true := by simp [addOk, h1, h2]
      have hp : addShow zs d = putF d zs := if_pos hok
      rw [hp, hok]
      clear hp hok
      go_enter Try.func38, Try.ntmps38
      go_wp2_with (fail)
      refine (put_any zs d (by omega) _ _ HR.out).mono ?_
      rintro e w1 ⟨u, rfl, o, hb⟩
      go_wp2_with (fail)
      refine (implSeasonOk_any zs _ _ (HR.out.below hb)).mono ?_
      rintro e w2 ⟨rfl, hd⟩
      replace o := o.below hd.below
      replace hb := bvia hb hd.below
      clear hd
      go_wp2_with (fail)
      refine (implSeasonOk_any _ _ _ o.rd).mono ?_
      rintro e w3 ⟨rfl, hd⟩
      replace o := o.below hd.below
      replace hb := bvia hb hd.below
      clear hd
      go_wp2_with (fail)
      go_ret2
      exact ⟨_, rfl, o, hb⟩
    · have h2' : seasonB (putF d zs) = false := by simpa using h2
      have hok : addOk zs d = false := by simp [addOk, h2']
      have hp : addShow zs d = zs := if_neg (by simp [hok])
      rw [hp, hok]
      clear hp hok h2
      go_enter Try.func38, Try.ntmps38
      go_wp2_with (fail)
      refine (put_any zs d (by omega) _ _ HR.out).mono ?_
      rintro e w1 ⟨u, rfl, o, hb⟩
      go_wp2_with (fail)
      refine (implSeasonOk_any zs _ _ (HR.out.below hb)).mono ?_
      rintro e w2 ⟨rfl, hd⟩
      replace o := o.below hd.below
      replace hb := bvia hb hd.below
      clear hd
      go_wp2_with (fail)
      refine (implSeasonOk_any _ _ _ o.rd).mono ?_
      rintro e w3 ⟨rfl, hd⟩
      replace hb := bvia hb hd.below
      clear hd o
      go_wp2_with (fail)
      refine (copyOf_any zs hn _ _ (HR.out.below hb)).mono ?_
      rintro e w4 ⟨u4, rfl, o, hb4⟩
      go_wp2_with (fail)
      go_ret2
      exact ⟨_, rfl, o.base hb.size, bvia hb hb4⟩
  · have h1' : seasonB zs = false := by simpa using h1
    have hok : addOk zs d = false := by simp [addOk, h1']
    have hp : addShow zs d = zs := if_neg (by simp [hok])
    rw [hp, hok]
    clear hp hok h1
    go_enter Try.func38, Try.ntmps38
    go_wp2_with (fail)
    refine (put_any zs d (by omega) _ _ HR.out).mono ?_
    rintro e w1 ⟨u, rfl, o, hb⟩
    go_wp2_with (fail)
    refine (implSeasonOk_any zs _ _ (HR.out.below hb)).mono ?_
    rintro e w2 ⟨rfl, hd⟩
    replace hb := bvia hb hd.below
    clear hd o
    go_wp2_with (fail)
    refine (copyOf_any zs hn _ _ (HR.out.below hb)).mono ?_
    rintro e w4 ⟨u4, rfl, o, hb4⟩
    go_wp2_with (fail)
    go_ret2
    exact ⟨_, rfl, o.base hb.size, bvia hb hb4⟩

/-- The first place whose number is not less than d. -/
def placeOf (d : Int) : List Int → Nat
  | [] => 0
  | x :: r => if x < d then placeOf d r + 1 else 0
theorem putF_place (d : Int) (zs : List Int) : putF d zs = zs.take (placeOf d zs) ++ [d] ++ zs.drop (placeOf d zs) := by
  induction zs with
  | nil => rfl
  | cons x r ih =>
    by_cases hx : x < d
    · rw [putF_gt r (by omega), ih]; simp [placeOf, hx]
    · rw [putF_le r (by omega)]; simp [placeOf, hx]
theorem placeOf_le (d : Int) (zs : List Int) : placeOf d zs ≤ zs.length := by
  induction zs with
  | nil => exact Nat.le_refl _
  | cons x r ih => unfold placeOf; split <;> simp <;> omega
theorem placeOf_lt {d x : Int} {r : List Int} (h : x < d) : placeOf d (x :: r) = placeOf d r + 1 := if_pos h
theorem placeOf_ge {d x : Int} {r : List Int} (h : ¬ x < d) : placeOf d (x :: r) = 0 := if_neg h
set_option maxHeartbeats 1600000 in
theorem specAddShow_nil (d : Int) (ad : Option Addr) (cap : Nat) (hmax : cap ≤ 9223372036854775807) (w : World) :
    Calls Try.prog 37 #[.slice ad 0 cap, .int .i64 d] w fun e w' => ∃ u, e = .returned (.tuple #[u, .bool (addOk [] d)]) ∧ OwI w' w.heap.size u (addShow [] d) ∧ Below w.heap.size w w' := by
  have hB := below_alloc1 w (.cells #[] 3)
  have hr1 : ∀ (W : World) (x : Option Addr) (c : Nat), c ≤ 9223372036854775807 → RdI W (.slice x 0 c) [] := fun W x c hcc => ⟨x, c, 0, 0, rfl, Nat.zero_le _, hcc, by simp [ints], by simp [ints]⟩
  have HR1 := Lib.hid hr1
  have h1 : seasonB [] = true := rfl
  clear hr1
  cases ad
  all_goals
    go_enter Try.func37, Try.ntmps37
    go_wp2_with (at_builtin; refine wpList_appI rfl (.tmp 9) (.tmp 10) rfl _ w.heap.size _ [] rfl (OwI.empty w _ (Nat.le_refl _)) _ [] rfl (HR1.out _ _ _ hmax) (by simp) (by simp) ?_; intro v1 w1 o hgr _; simp only [List.nil_append] at o; have hb := (OwI.empty w _ (Nat.le_refl _)).grown_below hB (Nat.le_refl _) hgr; clear hgr hB)
    refine (specSeasonOk_any [] _ _ (HR1.out _ _ _ hmax)).mono ?_
    rintro e w2 ⟨rfl, hd⟩
    replace o := o.below hd.below
    replace hb := bvia hb hd.below
    clear hd
    have hbw := hb.size
    go_wp2
    go_rounds 1
    go_wp2
    go_region_law (first
      | (refine step_appI rfl (.tmp 30) (.tmp 33) rfl _ w2.heap.size _ [] rfl (by first | exact (OwI.empty w2 w2.heap.size (Nat.le_refl _)).drew | exact ((OwI.empty w2 w2.heap.size (Nat.le_refl _)).alloc (.cells #[.int .i64 d] 3)).drew | exact (OwI.empty_at (w2.alloc (.cells #[.int .i64 d] 3)) w2.heap.size (World.size_alloc _ _).symm (below_alloc1 _ _).size).drew) _ [] rfl (HR1.out _ _ _ hmax) (by simp) (by simp <;> omega) ?_; intro v3 w3 o3 hg3 _; have hb3 : Below w2.heap.size w2 w3 := (by first | exact ((OwI.empty w2 w2.heap.size (Nat.le_refl _)).drew).grown_below (below_alloc1 _ _).drew (Nat.le_refl _) hg3 | exact (((OwI.empty w2 w2.heap.size (Nat.le_refl _)).alloc (.cells #[.int .i64 d] 3)).drew).grown_below (below_alloc2 _ _ _).drew (Nat.le_refl _) hg3 | exact ((OwI.empty_at (w2.alloc (.cells #[.int .i64 d] 3)) w2.heap.size (World.size_alloc _ _).symm (below_alloc1 _ _).size).drew).grown_below (below_alloc2 _ _ _).drew (Nat.le_refl _) hg3))
      | (refine step_appI rfl (.tmp 34) (.tmp 36) rfl _ w2.heap.size _ _ rfl (by first | exact o3 | exact o3.alloc _) _ [d] rfl (by first | exact rdI_one w3 d | exact RdI.kept (rdI_at (w2.alloc (.cells #[] 3)) d (World.size_alloc _ _).symm).drew hg3 (dis_addr (Nat.succ_ne_self _)) | exact RdI.kept ((rdI_one w2 d).alloc _).drew hg3 (dis_addr (Nat.succ_ne_self _).symm)) (by simp <;> omega) (by first | exact hb3.size | (have := hb3.size; simp; omega)) ?_; intro v4 w4 o4 hg4 _; have hb4 : Below w2.heap.size w2 w4 := (by first | exact o3.grown_below hb3 (Nat.le_refl _) hg4 | exact (o3.alloc _).grown_below (hb3.alloc hb3.size _) (Nat.le_refl _) hg4))
      | (refine step_appI rfl (.tmp 37) (.tmp 40) rfl _ w2.heap.size _ _ rfl o4 _ [] rfl (HR1.out _ _ _ (by omega)) (by simp <;> omega) hb4.size ?_; intro v5 w5 o5 hg5 _; have hb5 : Below w2.heap.size w2 w5 := o4.grown_below hb4 (Nat.le_refl _) hg5))
    all_goals
      have o6 : OwI w5 w2.heap.size v5 (putF d []) := by exact o5
      replace o := o.below hb5
      replace hb := bvia hb hb5
      have B5 := hb.size
      have B2 := o6.base hbw
      clear o5 o6 o4 o3 hb3 hb4 hb5 hg3 hg4 hg5
      by_cases h2 : seasonB (putF d []) = true
      · have hok : addOk [] d = true := by simp [addOk, h1, h2]
        have hp : addShow [] d = putF d [] := if_pos hok
        have HK := Lib.hid (And.intro hok hp)
        clear hok hp
        go_wp2_with (go_at_call 15; refine (specSeasonOk_any (putF d []) _ _ B2.rd).mono ?_; rintro e w6 ⟨rfl, hd⟩; replace B2 := B2.below hd.below; replace hb := bvia hb hd.below; clear hd)
        all_goals (go_ret2; exact ⟨_, ret_pairB HK.out.1.symm, by rw [HK.out.2]; exact B2, hb⟩)
      · have h2' : seasonB (putF d []) = false := by simpa using h2
        have hok : addOk [] d = false := by simp [addOk, h2']
        have hp : addShow [] d = [] := if_neg (by simp [hok])
        have HK := Lib.hid (And.intro hok hp)
        clear hok hp h2
        go_wp2_with (go_at_call 15; refine (specSeasonOk_any (putF d []) _ _ B2.rd).mono ?_; rintro e w6 ⟨rfl, hd⟩; replace o := o.below hd.below; replace hb := bvia hb hd.below; clear hd)
        all_goals (go_ret2; exact ⟨_, ret_pairB HK.out.1.symm, by rw [HK.out.2]; exact o, hb⟩)

set_option maxHeartbeats 1600000 in
theorem specAddShow_any (zs : List Int) (d : Int) (hn : zs.length ≤ 1048576) (v : Value) (w : World) (h : RdI w v zs) :
    Calls Try.prog 37 #[v, .int .i64 d] w fun e w' => ∃ u, e = .returned (.tuple #[u, .bool (addOk zs d)]) ∧ OwI w' w.heap.size u (addShow zs d) ∧ Below w.heap.size w w' := by
  have hB := below_alloc1 w (.cells #[] 3)
  have hr := h.below hB
  have HR := Lib.hid h
  obtain ⟨ad, cap, bl, off, hv, hcap, hmax, had, hc⟩ := h.open
  subst hv
  have HC := Lib.hid hc
  clear h hc
  by_cases h1 : seasonB zs = true
  · by_cases hz : 0 < zs.length
    · obtain rfl := had hz
      go_enter Try.func37, Try.ntmps37
      go_wp2_with (at_builtin; refine wpList_appI rfl (.tmp 9) (.tmp 10) rfl _ w.heap.size _ [] rfl (OwI.empty w _ (Nat.le_refl _)) _ zs rfl hr (by simp <;> omega) (by simp) ?_; intro v1 w1 o hgr _; simp only [List.nil_append] at o; have hb := (OwI.empty w _ (Nat.le_refl _)).grown_below hB (Nat.le_refl _) hgr; clear hgr hr hB)
      refine (specSeasonOk_any zs _ _ (HR.out.below hb)).mono ?_
      rintro e w2 ⟨rfl, hd⟩
      replace o := o.below hd.below
      replace hb := bvia hb hd.below
      clear hd
      have hbw := hb.size
      go_wp2
      go_loop [7] (fun i => ∃ k : Nat, k ≤ zs.length ∧ i = .int .i64 k ∧ Hid (k + placeOf d (zs.drop k) = placeOf d zs)) (fun i => zs.length - (intOf i).toNat)
      case atStart => exact ⟨0, by omega, rfl, by show _ = _; simp⟩
      case round =>
        obtain ⟨k, hk, rfl, H⟩ := hrel
        have hstop : (k < zs.length → ¬ zs.getD k 0 < d) → Hid (k = placeOf d zs) := by
          intro hh
          show k = _
          rw [← H.out]
          by_cases hlt : k < zs.length
          · rw [drop_one hlt, placeOf_ge (hh hlt)]; rfl
          · rw [List.drop_of_length_le (by omega)]; rfl
        have HS := Lib.hid hstop
        clear hstop
        by_cases hlt : k < zs.length
        · obtain ⟨x, hck, HX⟩ : ∃ x, w2.cell? ⟨bl, off + k, none⟩ = some (.int .i64 x) ∧ Hid (zs.drop k = x :: zs.drop (k + 1) ∧ x = zs.getD k 0) := ⟨_, cell_on hb (HC.out k hlt), drop_one hlt, rfl⟩
          by_cases hx : x < d
          · go_wp2
            exact ⟨⟨k + 1, by omega, by go_num, by show _ = _; rw [← H.out, HX.out.1, placeOf_lt hx]; omega⟩, by simp [intOf]; omega⟩
          · have HP := HS.out (fun _ => by rw [← HX.out.2]; exact hx)
            obtain ⟨s1, s2⟩ := RdI.parts (w := w2) hcap hmax hk (fun j hj => cell_on hb (HC.out j hj))
            have q1 : k ≤ cap := by omega
            have q2 : (k : Int) ≤ (cap : Int) := by omega
            have q3 : (k : Int) ≤ (zs.length : Int) := by omega
            go_wp2
            go_region_law (first
              | (refine step_appI rfl (.tmp 30) (.tmp 33) rfl _ w2.heap.size _ [] rfl (by first | exact (OwI.empty w2 w2.heap.size (Nat.le_refl _)).drew | exact ((OwI.empty w2 w2.heap.size (Nat.le_refl _)).alloc (.cells #[.int .i64 d] 3)).drew | exact (OwI.empty_at (w2.alloc (.cells #[.int .i64 d] 3)) w2.heap.size (World.size_alloc _ _).symm (below_alloc1 _ _).size).drew) _ (zs.take k) rfl (by first | exact (s1.alloc _).drew | exact ((s1.alloc _).alloc _).drew) (by simp <;> omega) (by simp <;> omega) ?_; intro v3 w3 o3 hg3 _; have hb3 : Below w2.heap.size w2 w3 := (by first | exact ((OwI.empty w2 w2.heap.size (Nat.le_refl _)).drew).grown_below (below_alloc1 _ _).drew (Nat.le_refl _) hg3 | exact (((OwI.empty w2 w2.heap.size (Nat.le_refl _)).alloc (.cells #[.int .i64 d] 3)).drew).grown_below (below_alloc2 _ _ _).drew (Nat.le_refl _) hg3 | exact ((OwI.empty_at (w2.alloc (.cells #[.int .i64 d] 3)) w2.heap.size (World.size_alloc _ _).symm (below_alloc1 _ _).size).drew).grown_below (below_alloc2 _ _ _).drew (Nat.le_refl _) hg3))
              | (refine step_appI rfl (.tmp 34) (.tmp 36) rfl _ w2.heap.size _ _ rfl (by first | exact o3 | exact o3.alloc _) _ [d] rfl (by first | exact rdI_one w3 d | exact RdI.kept (rdI_at (w2.alloc (.cells #[] 3)) d (World.size_alloc _ _).symm).drew hg3 (dis_addr (Nat.succ_ne_self _)) | exact RdI.kept ((rdI_one w2 d).alloc _).drew hg3 (dis_addr (Nat.succ_ne_self _).symm)) (by simp <;> omega) (by first | exact hb3.size | (have := hb3.size; simp; omega)) ?_; intro v4 w4 o4 hg4 _; have hb4 : Below w2.heap.size w2 w4 := (by first | exact o3.grown_below hb3 (Nat.le_refl _) hg4 | exact (o3.alloc _).grown_below (hb3.alloc hb3.size _) (Nat.le_refl _) hg4))
              | (refine step_appI rfl (.tmp 37) (.tmp 40) rfl _ w2.heap.size _ _ rfl o4 _ (zs.drop k) rfl (s2.below hb4) (by simp <;> omega) hb4.size ?_; intro v5 w5 o5 hg5 _; have hb5 : Below w2.heap.size w2 w5 := o4.grown_below hb4 (Nat.le_refl _) hg5))
            all_goals
              have o6 : OwI w5 w2.heap.size v5 (putF d zs) := by rw [putF_place, ← HP.out]; exact o5
              replace o := o.below hb5
              replace hb := bvia hb hb5
              have B5 := hb.size
              have B2 := o6.base hbw
              clear o5 o6 o4 o3 hb3 hb4 hb5 hg3 hg4 hg5 s1 s2 q1 q2 q3
              by_cases h2 : seasonB (putF d zs) = true
              · have hok : addOk zs d = true := by simp [addOk, h1, h2]
                have hp : addShow zs d = putF d zs := if_pos hok
                have HK := Lib.hid (And.intro hok hp)
                clear hok hp
                go_wp2_with (go_at_call 15; refine (specSeasonOk_any (putF d zs) _ _ B2.rd).mono ?_; rintro e w6 ⟨rfl, hd⟩; replace B2 := B2.below hd.below; replace hb := bvia hb hd.below; clear hd)
                all_goals (go_ret2; exact ⟨_, ret_pairB HK.out.1.symm, by rw [HK.out.2]; exact B2, hb⟩)
              · have h2' : seasonB (putF d zs) = false := by simpa using h2
                have hok : addOk zs d = false := by simp [addOk, h2']
                have hp : addShow zs d = zs := if_neg (by simp [hok])
                have HK := Lib.hid (And.intro hok hp)
                clear hok hp h2
                go_wp2_with (go_at_call 15; refine (specSeasonOk_any (putF d zs) _ _ B2.rd).mono ?_; rintro e w6 ⟨rfl, hd⟩; replace o := o.below hd.below; replace hb := bvia hb hd.below; clear hd)
                all_goals (go_ret2; exact ⟨_, ret_pairB HK.out.1.symm, by rw [HK.out.2]; exact o, hb⟩)
        · have HP := HS.out (fun hh => absurd hh hlt)
          obtain ⟨s1, s2⟩ := RdI.parts (w := w2) hcap hmax hk (fun j hj => cell_on hb (HC.out j hj))
          have q1 : k ≤ cap := by omega
          have q2 : (k : Int) ≤ (cap : Int) := by omega
          have q3 : (k : Int) ≤ (zs.length : Int) := by omega
          go_wp2
          go_region_law (first
            | (refine step_appI rfl (.tmp 30) (.tmp 33) rfl _ w2.heap.size _ [] rfl (by first | exact (OwI.empty w2 w2.heap.size (Nat.le_refl _)).drew | exact ((OwI.empty w2 w2.heap.size (Nat.le_refl _)).alloc (.cells #[.int .i64 d] 3)).drew | exact (OwI.empty_at (w2.alloc (.cells #[.int .i64 d] 3)) w2.heap.size (World.size_alloc _ _).symm (below_alloc1 _ _).size).drew) _ (zs.take k) rfl (by first | exact (s1.alloc _).drew | exact ((s1.alloc _).alloc _).drew) (by simp <;> omega) (by simp <;> omega) ?_; intro v3 w3 o3 hg3 _; have hb3 : Below w2.heap.size w2 w3 := (by first | exact ((OwI.empty w2 w2.heap.size (Nat.le_refl _)).drew).grown_below (below_alloc1 _ _).drew (Nat.le_refl _) hg3 | exact (((OwI.empty w2 w2.heap.size (Nat.le_refl _)).alloc (.cells #[.int .i64 d] 3)).drew).grown_below (below_alloc2 _ _ _).drew (Nat.le_refl _) hg3 | exact ((OwI.empty_at (w2.alloc (.cells #[.int .i64 d] 3)) w2.heap.size (World.size_alloc _ _).symm (below_alloc1 _ _).size).drew).grown_below (below_alloc2 _ _ _).drew (Nat.le_refl _) hg3))
            | (refine step_appI rfl (.tmp 34) (.tmp 36) rfl _ w2.heap.size _ _ rfl (by first | exact o3 | exact o3.alloc _) _ [d] rfl (by first | exact rdI_one w3 d | exact RdI.kept (rdI_at (w2.alloc (.cells #[] 3)) d (World.size_alloc _ _).symm).drew hg3 (dis_addr (Nat.succ_ne_self _)) | exact RdI.kept ((rdI_one w2 d).alloc _).drew hg3 (dis_addr (Nat.succ_ne_self _).symm)) (by simp <;> omega) (by first | exact hb3.size | (have := hb3.size; simp; omega)) ?_; intro v4 w4 o4 hg4 _; have hb4 : Below w2.heap.size w2 w4 := (by first | exact o3.grown_below hb3 (Nat.le_refl _) hg4 | exact (o3.alloc _).grown_below (hb3.alloc hb3.size _) (Nat.le_refl _) hg4))
            | (refine step_appI rfl (.tmp 37) (.tmp 40) rfl _ w2.heap.size _ _ rfl o4 _ (zs.drop k) rfl (s2.below hb4) (by simp <;> omega) hb4.size ?_; intro v5 w5 o5 hg5 _; have hb5 : Below w2.heap.size w2 w5 := o4.grown_below hb4 (Nat.le_refl _) hg5))
          all_goals
            have o6 : OwI w5 w2.heap.size v5 (putF d zs) := by rw [putF_place, ← HP.out]; exact o5
            replace o := o.below hb5
            replace hb := bvia hb hb5
            have B5 := hb.size
            have B2 := o6.base hbw
            clear o5 o6 o4 o3 hb3 hb4 hb5 hg3 hg4 hg5 s1 s2 q1 q2 q3
            by_cases h2 : seasonB (putF d zs) = true
            · have hok : addOk zs d = true := by simp [addOk, h1, h2]
              have hp : addShow zs d = putF d zs := if_pos hok
              have HK := Lib.hid (And.intro hok hp)
              clear hok hp
              go_wp2_with (go_at_call 15; refine (specSeasonOk_any (putF d zs) _ _ B2.rd).mono ?_; rintro e w6 ⟨rfl, hd⟩; replace B2 := B2.below hd.below; replace hb := bvia hb hd.below; clear hd)
              all_goals (go_ret2; exact ⟨_, ret_pairB HK.out.1.symm, by rw [HK.out.2]; exact B2, hb⟩)
            · have h2' : seasonB (putF d zs) = false := by simpa using h2
              have hok : addOk zs d = false := by simp [addOk, h2']
              have hp : addShow zs d = zs := if_neg (by simp [hok])
              have HK := Lib.hid (And.intro hok hp)
              clear hok hp h2
              go_wp2_with (go_at_call 15; refine (specSeasonOk_any (putF d zs) _ _ B2.rd).mono ?_; rintro e w6 ⟨rfl, hd⟩; replace o := o.below hd.below; replace hb := bvia hb hd.below; clear hd)
              all_goals (go_ret2; exact ⟨_, ret_pairB HK.out.1.symm, by rw [HK.out.2]; exact o, hb⟩)
    · obtain rfl : zs = [] := List.eq_nil_of_length_eq_zero (by omega)
      exact specAddShow_nil d ad cap hmax w
  · have h1' : seasonB zs = false := by simpa using h1
    have hok : addOk zs d = false := by simp [addOk, h1']
    have hp : addShow zs d = zs := if_neg (by simp [hok])
    rw [hp, hok]
    clear hp hok h1
    go_enter Try.func37, Try.ntmps37
    go_wp2_with (at_builtin; refine wpList_appI rfl (.tmp 9) (.tmp 10) rfl _ w.heap.size _ [] rfl (OwI.empty w _ (Nat.le_refl _)) _ zs rfl hr (by simp <;> omega) (by simp) ?_; intro v1 w1 o hgr _; simp only [List.nil_append] at o; have hb := (OwI.empty w _ (Nat.le_refl _)).grown_below hB (Nat.le_refl _) hgr; clear hgr hr hB)
    refine (specSeasonOk_any zs _ _ (HR.out.below hb)).mono ?_
    rintro e w2 ⟨rfl, hd⟩
    replace o := o.below hd.below
    replace hb := bvia hb hd.below
    clear hd
    go_wp2_with (fail)
    go_ret2
    exact ⟨_, rfl, o, hb⟩
theorem walkFnExactAddShow (zs : List Int) (d : Int) (vzs : Value) (w : World) (hzs : RdI w vzs zs) : Calls Try.prog 12 #[vzs, .int .i64 d] w fun e w' => e = .returned (.bool true) ∧ Below w.heap.size w w' := by
  obtain ⟨azs, capzs, rfl⟩ := hzs.shape
  by_cases hlzs : zs.length ≤ 1048576
  · skip
    have hB := Below.refl w.heap.size w
    have hyl : (addShow zs d).length ≤ 1048577 := Nat.le_trans (addShow_length zs d) (by omega)
    go_enter Try.func12, Try.ntmps12
    go_wp2_with (fail)
    refine (toIntS_any zs hlzs _ _ (hzs.below hB)).mono ?_
    rintro e w1 ⟨ut0, rfl, ot0, hb⟩
    have bt0 := hB.size
    replace hB := bvia hB hb
    clear hb
    go_wp2_with (fail)
    refine (specAddShow_any zs d hlzs _ _ ot0.rd).mono ?_
    rintro e w2 ⟨uw, rfl, ow, hb⟩
    have dt0_w := ot0.dis ow (Nat.le_refl _)
    have dw_t0 := ot0.dis' ow (Nat.le_refl _)
    have bw := hB.size
    replace ot0 := ot0.below hb
    replace hB := bvia hB hb
    clear hb
    clear ot0
    go_wp2_with (fail)
    refine (toIntS_any zs hlzs _ _ (hzs.below hB)).mono ?_
    rintro e w3 ⟨ux0, rfl, ox0, hb⟩
    have dw_x0 := ow.dis ox0 (Nat.le_refl _)
    have dx0_w := ow.dis' ox0 (Nat.le_refl _)
    have bx0 := hB.size
    replace ow := ow.below hb
    replace hB := bvia hB hb
    clear hb
    go_wp2_with (fail)
    refine (implAddShow_any zs d hlzs _ _ ox0.rd).mono ?_
    rintro e w4 ⟨ug, rfl, og, hb⟩
    have dw_g := ow.dis og (Nat.le_refl _)
    have dg_w := ow.dis' og (Nat.le_refl _)
    have dx0_g := ox0.dis og (Nat.le_refl _)
    have dg_x0 := ox0.dis' og (Nat.le_refl _)
    have bg := hB.size
    replace ow := ow.below hb
    replace ox0 := ox0.below hb
    replace hB := bvia hB hb
    clear hb
    go_wp2_with (fail)
    refine (eqIntS_any (addShow zs d) _ _ _ og.rd ow.rd).mono ?_
    rintro e w5 ⟨rfl, hd⟩
    have hb := hd.below; clear hd
    replace ow := ow.below hb
    replace ox0 := ox0.below hb
    replace og := og.below hb
    replace hB := bvia hB hb
    clear hb
    go_wp2_with (fail)
    refine (toIntS_any zs hlzs _ _ (hzs.below hB)).mono ?_
    rintro e w6 ⟨uy0, rfl, oy0, hb⟩
    have dw_y0 := ow.dis oy0 (Nat.le_refl _)
    have dy0_w := ow.dis' oy0 (Nat.le_refl _)
    have dx0_y0 := ox0.dis oy0 (Nat.le_refl _)
    have dy0_x0 := ox0.dis' oy0 (Nat.le_refl _)
    have dg_y0 := og.dis oy0 (Nat.le_refl _)
    have dy0_g := og.dis' oy0 (Nat.le_refl _)
    have by0 := hB.size
    replace ow := ow.below hb
    replace ox0 := ox0.below hb
    replace og := og.below hb
    replace hB := bvia hB hb
    clear hb
    go_wp2_with (fail)
    refine (eqIntS_any zs _ _ _ ox0.rd oy0.rd).mono ?_
    rintro e w7 ⟨rfl, hd⟩
    have hb := hd.below; clear hd
    replace ow := ow.below hb
    replace ox0 := ox0.below hb
    replace og := og.below hb
    replace oy0 := oy0.below hb
    replace hB := bvia hB hb
    clear hb
    clear oy0
    go_wp2_with (fail)
    refine (markIntS_any zs _ (by omega) (by omega) _ _ _ ox0).mono ?_
    rintro e w8 ⟨rfl, om, hg⟩
    replace ow := ow.kept hg dw_x0
    replace og := og.kept hg dg_x0
    replace hB := below_mark hB ox0 bx0 hg
    clear hg ox0
    have ox0 := om
    clear om
    go_wp2_with (fail)
    refine (eqIntS_any (addShow zs d) _ _ _ og.rd ow.rd).mono ?_
    rintro e w9 ⟨rfl, hd⟩
    have hb := hd.below; clear hd
    replace ow := ow.below hb
    replace ox0 := ox0.below hb
    replace og := og.below hb
    replace hB := bvia hB hb
    clear hb
    clear ox0
    go_wp2_with (fail)
    refine (markIntS_any (addShow zs d) _ (by omega) (by omega) _ _ _ og).mono ?_
    rintro e w10 ⟨rfl, om, hg⟩
    replace ow := ow.kept hg dw_g
    replace hB := below_mark hB og bg hg
    clear hg og
    have og := om
    clear om
    go_wp2_with (fail)
    refine (heldIntS_any (addShow zs d).length 1 (by omega) (by omega) _ _ og.rd).mono ?_
    rintro e w11 ⟨rfl, rfl⟩
    go_wp2_with (fail)
    refine (toIntS_any zs hlzs _ _ (hzs.below hB)).mono ?_
    rintro e w12 ⟨us0, rfl, os0, hb⟩
    have dw_s0 := ow.dis os0 (Nat.le_refl _)
    have ds0_w := ow.dis' os0 (Nat.le_refl _)
    have dg_s0 := og.dis os0 (Nat.le_refl _)
    have ds0_g := og.dis' os0 (Nat.le_refl _)
    have bs0 := hB.size
    replace ow := ow.below hb
    replace og := og.below hb
    replace hB := bvia hB hb
    clear hb
    go_wp2_with (fail)
    refine (implAddShow_any zs d hlzs _ _ os0.rd).mono ?_
    rintro e w13 ⟨uh, rfl, oh, hb⟩
    have dw_h := ow.dis oh (Nat.le_refl _)
    have dh_w := ow.dis' oh (Nat.le_refl _)
    have dg_h := og.dis oh (Nat.le_refl _)
    have dh_g := og.dis' oh (Nat.le_refl _)
    have ds0_h := os0.dis oh (Nat.le_refl _)
    have dh_s0 := os0.dis' oh (Nat.le_refl _)
    have bh := hB.size
    replace ow := ow.below hb
    replace og := og.below hb
    replace os0 := os0.below hb
    replace hB := bvia hB hb
    clear hb
    clear os0
    go_wp2_with (fail)
    refine (eqIntS_any (addShow zs d) _ _ _ oh.rd ow.rd).mono ?_
    rintro e w14 ⟨rfl, hd⟩
    have hb := hd.below; clear hd
    replace ow := ow.below hb
    replace og := og.below hb
    replace oh := oh.below hb
    replace hB := bvia hB hb
    clear hb
    go_wp2_with (fail)
    refine (heldIntS_any (addShow zs d).length 1 (by omega) (by omega) _ _ og.rd).mono ?_
    rintro e w15 ⟨rfl, rfl⟩
    go_wp2_with (fail)
    go_returns
    exact ⟨rfl, hB⟩
  · go_enter Try.func12, Try.ntmps12
    go_wp2_with (fail)
    go_returns
    exact ⟨rfl, Below.refl _ _⟩
end Go.Proofs.Yteakfhmkaioaeaa
