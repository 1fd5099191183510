/- The walks of RehearsalPlan. -/
import Derived.Test.YtcplfempajfcdaaHard
import Derived.Test.YtcplfempajfcdaaCopyI
import Derived.Test.YtcplfempajfcdaaPlanLaw
import Derived.Test.YtcplfempajfcdaaInts
namespace Go.Proofs.Ytcplfempajfcdaa
open Go.ChangeShapes Go.WideShapes Go.ChangeAt Go.RowKit Go.Joins
set_option linter.unusedSimpArgs false
set_option linter.unusedVariables false

def planR (zs : List (Int × Int × Int)) (m : Int) : List Int := if notesB zs = true ∧ inB m 0 600 = true then (planF (sumsL zs) 12).take (m / 5).toNat else []
theorem planR_length (zs : List (Int × Int × Int)) (m : Int) : (planR zs m).length ≤ 12 := by
  unfold planR
  split
  · have := planF_length (sumsL zs) 12
    rw [List.length_take]; omega
  · simp
theorem sums_nonneg {zs : List (Int × Int × Int)} (h : notesB zs = true) (e : Int) : 0 ≤ val (sumsL zs) e := by
  unfold val
  by_cases he : e.toNat < 12
  · rw [sumsL_get zs he]
    exact (wsum_bd _ zs fun x hx => ((notesB_bd h).2 x hx).2.2).1
  · rw [List.getD_eq_getElem?_getD, List.getElem?_eq_none (by rw [sumsL_length]; omega)]
    exact Int.le_refl _
theorem OwI.kept' {w w' : World} {B g : Nat} {v : Value} {zs : List Int} (h : OwI w B v zs) (hg : w.grownBy w' (some g)) (hd : v.ownBlock ≠ some g) : OwI w' B v zs := World.ownsRow.kept h hg (.inr hd)
/-- Two values lie in different blocks. -/
def Dj (v u : Value) : Prop := ∀ k, v.ownBlock = some k → u.ownBlock ≠ some k
theorem Dj.symm {v u : Value} (h : Dj v u) : Dj u v := fun k h1 h2 => h k h2 h1
theorem Dj.dis {v u : Value} (h : Dj v u) : Dis v u := by
  rcases hv : v.ownBlock with _ | k
  · exact .inl hv
  · exact .inr (fun e => h k hv (by rw [← e, hv]))
theorem Dj.next {w : World} {B : Nat} {v v' u : Value} {R : List Int} (h : Dj v u) (hu : OwI w B u R) (hat : v'.ownBlock = v.ownBlock ∨ ∃ k, v'.ownBlock = some k ∧ w.heap.size ≤ k) : Dj v' u := by
  intro k hk e
  rcases hat with hat | ⟨j, hj, hle⟩
  · exact h k (by rw [← hat]; exact hk) e
  · rw [hk] at hj
    injection hj with hj
    have := (hu.lt k e).2
    omega
theorem take_plan {P : List Int} {m0 : Int} {j : Nat} (hm : 0 ≤ m0) (h1 : j ≤ P.length) (h : m0 - 5 * j < 5 ∨ j = P.length) (h5 : 5 * (j : Int) ≤ m0) : P.take j = P.take (m0 / 5).toNat := by
  rcases h with h | h
  · congr 1; omega
  · rw [List.take_of_length_le (by omega), List.take_of_length_le (by omega)]
theorem take_succ_get {P : List Int} {j : Nat} (h : j < P.length) : P.take (j + 1) = P.take j ++ [P[j]] := List.take_succ_eq_append_getElem h
set_option maxHeartbeats 1600000 in
theorem specRehearsalPlan_any (zs : List (Int × Int × Int)) (m0 : Int) (v : Value) (w : World) (h : RdNote w v zs) :
    Calls Try.prog 25 #[v, .int .i64 m0] w fun e w' => ∃ u, e = .returned u ∧ OwI w' w.heap.size u (planR zs m0) ∧ Below w.heap.size w w' := by
  have cw : ∀ (x lo hi : Int) (b : Bool), inB x lo hi = b → ∀ u, Calls Try.prog 33 #[.int .i64 x, .int .i64 lo, .int .i64 hi] u fun e w' => e = .returned (.bool b) ∧ u = w' := fun x lo hi b hb u => by have := l01In_any x lo hi u; rwa [hb] at this
  have HR := Lib.hid h
  clear h
  have hB0 := below_alloc1 w (.cells #[] 3)
  have HE := Lib.hid (OwI.empty w w.heap.size (Nat.le_refl _))
  by_cases hok : notesB zs = true
  · by_cases hin : inB m0 0 600 = true
    · rw [show planR zs m0 = (planF (sumsL zs) 12).take (m0 / 5).toNat from if_pos ⟨hok, hin⟩]
      obtain ⟨hm0, hm1⟩ := inB_true.1 hin
      go_enter Try.func25, Try.ntmps25
      go_wp2_with (fail)
      refine (specNotesOk_any zs _ _ (HR.out.alloc _)).mono ?_
      rintro e w1 ⟨rfl, hd⟩
      replace HE := Lib.hid (HE.out.below hd)
      replace hB0 := bvia hB0 hd
      clear hd
      go_wp2_with (fail)
      refine (cw m0 _ _ _ hin _).mono ?_
      rintro e w2 ⟨rfl, rfl⟩
      go_wp2_with (fail)
      refine (specSums_any zs hok _ _ (HR.out.below hB0)).mono ?_
      rintro e w2 ⟨su, rfl, os, hb⟩
      have hdj : Dj (.slice (some ⟨w.heap.size, 0, none⟩) 0 0) su := fun k hk e => by
        have h1 := (os.lt k e).1
        have h2 := (HE.out.lt k hk).2
        omega
      replace HE := Lib.hid (HE.out.below hb)
      replace os := os.base hB0.size
      replace hB0 := bvia hB0 hb
      clear hb
      have HNN := Lib.hid (sums_nonneg hok)
      have hL := sumsL_length zs
      have HLE : Hid (sumsL zs = sumsL zs) := rfl
      generalize hLe : sumsL zs = L at os hL HNN
      replace HLE := Lib.hid hLe
      clear hLe
      rcases os.slice with ⟨_, rfl⟩ | ⟨g, cap2, rfl, hg, hgw, hcap, hmax⟩
      · simp at hL
      have HOS := Lib.hid os
      have HDJ := Lib.hid hdj
      clear os hdj
      have hP12 := planF_length L 12
      rw [hL] at HOS HDJ hcap ⊢
      go_wp2_with (fail)
      go_loopw [1, 5] (fun m u wr => ∃ j : Nat, j ≤ (planF L 12).length ∧ m = .int .i64 (m0 - 5 * j) ∧ 5 * (j : Int) ≤ m0 ∧ OwI wr w.heap.size u ((planF L 12).take j) ∧ Hid (OwI wr w.heap.size (.slice (some ⟨g, 0, none⟩) 12 cap2) (zer L ((planF L 12).take j))) ∧ Hid (Dj u (.slice (some ⟨g, 0, none⟩) 12 cap2)) ∧ Below w.heap.size w wr) (fun m _ _ => (intOf m).toNat)
      case atStart => exact ⟨0, Nat.zero_le _, by simp, by omega, by rw [List.take_zero]; exact HE.out, by rw [List.take_zero]; exact HOS.out, HDJ.out, hB0⟩
      case round =>
       as_aux_lemma =>
        clear HE HOS HDJ hB0
        obtain ⟨j, hj, rfl, h5, ho, HS, HDJ, hB⟩ := hrel
        by_cases hlt : 5 ≤ m0 - 5 * (j : Int)
        · obtain ⟨wo, rfl⟩ : ∃ wo : World, wo = wr := ⟨_, rfl⟩
          have HZL := Lib.hid (zer_length ((planF L 12).take j) L)
          have HTN := Lib.hid (fun h : j < (planF L 12).length => topF_next HNN.out h)
          have HTE := Lib.hid (fun h : (planF L 12).length ≤ j => topF_end HNN.out h)
          have HPM := Lib.hid (planF_spec L 12).2
          have HTK := Lib.hid (fun h : j < (planF L 12).length => take_succ_get h)
          have HZS := Lib.hid (zer_snoc L ((planF L 12).take j))
          generalize hS : zer L ((planF L 12).take j) = S at HS HZL HTN HTE HZS
          generalize hP : planF L 12 = P at hP12 hj ho HTN HTE HPM HTK hS HZS ⊢
          have HSE := Lib.hid hS
          have HPE := Lib.hid hP
          clear hS hP
          have hS12 : S.length = 12 := by rw [HZL.out, hL]
          have HC := Lib.hid (fun (k : Nat) (hk : k < 12) => (HS.out.cell (k := k) (by omega)).1)
          go_wp2_with (fail)
          go_loopw [7, 8] (fun b k wr => ∃ i : Nat, i ≤ 12 ∧ k = .int .i64 i ∧ b = .int .i64 (topF S i) ∧ Dr wo wr) (fun _ k _ => 12 - (intOf k).toNat)
          case atStart => exact ⟨0, by omega, rfl, rfl, Dr.refl _⟩
          case round =>
           as_aux_lemma =>
            obtain ⟨i, hi, rfl, rfl, hD⟩ := hrel
            by_cases hi12 : i < 12
            · have hci := hD.cell (HC.out i hi12)
              have q1 : (i : Int) < 12 := by omega
              have HTS : Hid (topF S (i + 1) = if 0 < S.getD i 0 ∧ (topF S i < 0 ∨ S.getD (topF S i).toNat 0 < S.getD i 0) then (i : Int) else topF S i) := rfl
              have htsp := topF_spec S i
              by_cases hx : 0 < S.getD i 0
              · rcases htsp with ⟨ht, _⟩ | ⟨b, hb, ht, _⟩
                · have HN : Hid (Value.int .i64 i = .int .i64 (topF S (i + 1))) := by show _ = _; rw [HTS.out, if_pos ⟨hx, .inl (by rw [ht]; omega)⟩]
                  rw [ht]
                  generalize S.getD i 0 = x at hx hci
                  clear ht HTS
                  go_wp2
                  go_quiet (fail)
                  go_wp2
                  exact ⟨⟨i + 1, by omega, by go_num, HN.out, hD.next _⟩, by simp [intOf]; omega⟩
                · have hcb := hD.cell (HC.out b (by omega))
                  have q2 : (b : Int) < 12 := by omega
                  have q3 : decide ((b : Int) < 0) = false := decide_eq_false (by omega)
                  have q4 : ¬ (b : Int) < 0 := by omega
                  rw [ht, Int.toNat_natCast] at HTS
                  rw [ht]
                  by_cases hyx : S.getD b 0 < S.getD i 0
                  · have HN : Hid (Value.int .i64 i = .int .i64 (topF S (i + 1))) := by show _ = _; rw [HTS.out, if_pos ⟨hx, .inr hyx⟩]
                    generalize S.getD i 0 = x at hx hci hyx
                    generalize S.getD b 0 = y at hcb hyx
                    clear ht HTS
                    go_wp2
                    go_quiet (fail)
                    go_wp2
                    exact ⟨⟨i + 1, by omega, by go_num, HN.out, hD.next _⟩, by simp [intOf]; omega⟩
                  · have HN : Hid (Value.int .i64 b = .int .i64 (topF S (i + 1))) := by show _ = _; rw [HTS.out, if_neg (fun h => by rcases h.2 with h | h; omega; exact hyx h)]
                    generalize S.getD i 0 = x at hx hci hyx
                    generalize S.getD b 0 = y at hcb hyx
                    have q5 : decide (y < x) = false := decide_eq_false hyx
                    clear ht HTS
                    go_wp2
                    go_quiet (fail)
                    go_wp2
                    exact ⟨⟨i + 1, by omega, by go_num, HN.out, hD.next _⟩, by simp [intOf]; omega⟩
              · have HN : Hid (Value.int .i64 (topF S i) = .int .i64 (topF S (i + 1))) := by show _ = _; rw [HTS.out, if_neg (fun h => hx h.1)]
                generalize S.getD i 0 = x at hx hci
                have q5 : decide (0 < x) = false := decide_eq_false hx
                clear HTS htsp
                go_wp2
                go_quiet (fail)
                go_wp2
                exact ⟨⟨i + 1, by omega, by go_num, HN.out, hD.next _⟩, by simp [intOf]; omega⟩
            · obtain rfl : i = 12 := by omega
              have hBr := bvia hB hD.below
              have hor := ho.below hD.below
              have HSr := Lib.hid (HS.out.below hD.below)
              clear hD
              by_cases hjl : j < P.length
              · have ht := HTN.out hjl
                obtain ⟨e0, e1, _⟩ := (HPM.out P[j]).1 (List.getElem_mem hjl)
                have hTK := HTK.out hjl
                have hZS := HZS.out P[j]
                rw [ht]
                generalize P[j] = c at e0 e1 hTK hZS
                obtain ⟨n, rfl⟩ : ∃ n : Nat, c = n := ⟨c.toNat, by omega⟩
                rw [Int.toNat_natCast] at hZS
                have q2 : (n : Int) < 12 := by omega
                have q3 : ¬ (n : Int) < 0 := by omega
                have q4 : n < 12 := by omega
                have htl : (P.take j).length ≤ 12 := by rw [List.length_take]; omega
                have HT2 := Lib.hid hTK
                have HZ2 := Lib.hid hZS
                clear ht hTK hZS HTN HTE HPM HTK HZS e1
                go_wp2_with (at_builtin; refine wpList_pushI rfl (.tmp 53) (.tmp 55) rfl _ _ w.heap.size _ _ rfl hor rfl (by omega) hBr.size ?_; intro v1 w3 o1 hgr hat; have hB3 := hor.grown_below hBr (Nat.le_refl _) hgr; have HS3 := Lib.hid (HSr.out.kept hgr (HDJ.out.symm).dis); have HD3 := Lib.hid (HDJ.out.next HSr.out hat); obtain ⟨hcn, hfn⟩ := HS3.out.cell (k := n) (by omega); generalize S.getD n 0 = yy at hcn; clear hgr hat hor hBr HSr HDJ)
                have hst := HS3.out.set n 0
                have hB4 := HS3.out.grown_below hB3 (Nat.le_refl _) hst.2
                have o4 := o1.kept hst.2 HD3.out.dis
                rw [← HT2.out] at o4
                have hS4 := hst.1
                rw [← HZ2.out, ← HT2.out] at hS4
                exact ⟨⟨j + 1, by omega, by go_num, by omega, o4, hS4, HD3, hB4⟩, by simp [intOf]; omega⟩
              · have ht := HTE.out (by omega)
                rw [ht]
                have HK : Hid (P.take j = (planF (sumsL zs) 12).take (m0 / 5).toNat) := by show _ = _; rw [HLE.out, HPE.out]; exact take_plan hm0 hj (.inr (by omega)) h5
                clear ht HTN HTE HPM HTK HZS
                go_wp2
                go_ret
                exact ⟨_, rfl, by rw [← HK.out]; exact hor, hBr⟩
        · have HK : Hid ((planF L 12).take j = (planF (sumsL zs) 12).take (m0 / 5).toNat) := by show _ = _; rw [HLE.out]; exact take_plan hm0 hj (.inl (by omega)) h5
          go_wp2
          go_ret
          exact ⟨_, rfl, by rw [← HK.out]; exact ho, hB⟩
    · have hin' : inB m0 0 600 = false := by simpa using hin
      rw [show planR zs m0 = [] from if_neg (fun h => hin h.2)]
      clear hin
      go_enter Try.func25, Try.ntmps25
      go_wp2_with (fail)
      refine (specNotesOk_any zs _ _ (HR.out.alloc _)).mono ?_
      rintro e w1 ⟨rfl, hd⟩
      replace HE := Lib.hid (HE.out.below hd)
      replace hB0 := bvia hB0 hd
      clear hd
      go_wp2_with (fail)
      refine (cw m0 _ _ _ hin' _).mono ?_
      rintro e w2 ⟨rfl, rfl⟩
      go_wp2_with (fail)
      go_ret
      exact ⟨_, rfl, HE.out, hB0⟩
  · have hok' : notesB zs = false := by simpa using hok
    rw [show planR zs m0 = [] from if_neg (fun h => hok h.1)]
    clear hok
    go_enter Try.func25, Try.ntmps25
    go_wp2_with (fail)
    refine (specNotesOk_any zs _ _ (HR.out.alloc _)).mono ?_
    rintro e w1 ⟨rfl, hd⟩
    replace HE := Lib.hid (HE.out.below hd)
    replace hB0 := bvia hB0 hd
    clear hd
    go_wp2_with (fail)
    go_ret
    exact ⟨_, rfl, HE.out, hB0⟩
theorem shift_ins {P : List Int} {k : Nat} (hk : k ≤ P.length) (c x : Int) : ((P ++ [x]).take (k + 1) ++ ((P ++ [x]).drop k).take ((P ++ [x]).length - (k + 1))).set k c = P.take k ++ c :: P.drop k := by
  have h1 : ((P ++ [x]).drop k).take ((P ++ [x]).length - (k + 1)) = P.drop k := by
    rw [List.drop_append_of_le_length hk, List.take_append_of_le_length (by simp), List.take_of_length_le (by simp)]
  rw [h1]
  have h2 : (P ++ [x]).take (k + 1) = P.take k ++ ((P.drop k) ++ [x]).take 1 := by
    have e : P ++ [x] = P.take k ++ (P.drop k ++ [x]) := by rw [← List.append_assoc, List.take_append_drop]
    have hl : (P.take k).length = k := by rw [List.length_take]; omega
    rw [e, List.take_append, hl, List.take_take, Nat.min_eq_right (by omega), Nat.add_sub_cancel_left]
  have h3 : ∃ y, ((P.drop k) ++ [x]).take 1 = [y] := by
    cases hd : P.drop k with
    | nil => exact ⟨x, rfl⟩
    | cons z r => exact ⟨z, rfl⟩
  obtain ⟨y, hy⟩ := h3
  have hl : (P.take k).length = k := by rw [List.length_take]; omega
  rw [h2, hy, List.append_assoc, List.set_append_right _ _ (by omega), hl, Nat.sub_self]
  rfl
theorem OwI.pre {w : World} {B g n cap k : Nat} {zs : List Int} (h : OwI w B (.slice (some ⟨g, 0, none⟩) n cap) zs) (hk : k ≤ zs.length) : OwI w B (.slice (some ⟨g, 0, none⟩) k cap) (zs.take k) := by
  have hl : (zs.take k).length = k := by rw [List.length_take]; omega
  have hfl : (ints zs).take k = ints (zs.take k) := by simp [ints]
  obtain ⟨h1, h2⟩ := h
  refine ⟨by rw [ints_length, Nat.mul_one], .inr ?_⟩
  rcases h2 with ⟨h2, _⟩ | ⟨g', cap', cur, h2, h3, h4, h5, h6, h7, h8⟩
  · simp at h2
  · simp only [Value.slice.injEq, Option.some.injEq, Addr.mk.injEq] at h2
    obtain ⟨⟨rfl, _⟩, rfl, rfl⟩ := h2
    rw [Nat.mul_one] at h8
    refine ⟨g, cap, cur, by rw [hl], h3, h4, by rw [hl]; omega, h6, h7, ?_⟩
    rw [hl, Nat.mul_one, ← hfl, ← h8, List.take_take, Nat.min_eq_left hk]
theorem own_some {w : World} {B : Nat} {v : Value} {zs : List Int} (h : OwI w B v zs) (h0 : 0 < zs.length) : ∃ g cap, v = .slice (some ⟨g, 0, none⟩) zs.length cap ∧ B ≤ g ∧ g < w.heap.size ∧ zs.length ≤ cap ∧ cap ≤ 9223372036854775807 := by
  rcases h.slice with ⟨_, rfl⟩ | ⟨g, cap, rfl, h1, h2, h3, h4⟩
  · simp at h0
  · exact ⟨g, cap, rfl, h1, h2, h3, h4⟩
theorem ob_next {w : World} {ga : Nat} {v v' : Value} (hd : v.ownBlock ≠ some ga) (hga : ga < w.heap.size) (hat : v'.ownBlock = v.ownBlock ∨ ∃ k, v'.ownBlock = some k ∧ w.heap.size ≤ k) : v'.ownBlock ≠ some ga := by
  rcases hat with hat | ⟨k, hk, hle⟩
  · rw [hat]; exact hd
  · rw [hk]; simp; omega
set_option maxHeartbeats 3200000 in
theorem implRehearsalPlan_any (zs : List (Int × Int × Int)) (m0 : Int) (v : Value) (w : World) (h : RdNote w v zs) :
    Calls Try.prog 26 #[v, .int .i64 m0] w fun e w' => ∃ u, e = .returned u ∧ OwI w' w.heap.size u (planR zs m0) ∧ Below w.heap.size w w' := by
  have cw : ∀ (x lo hi : Int) (b : Bool), inB x lo hi = b → ∀ u, Calls Try.prog 35 #[.int .i64 x, .int .i64 lo, .int .i64 hi] u fun e w' => e = .returned (.bool b) ∧ u = w' := fun x lo hi b hb u => by have := within_any x lo hi u; rwa [hb] at this
  have HR := Lib.hid h
  clear h
  by_cases hok : notesB zs = true
  · by_cases hin : inB m0 0 600 = true
    · rw [show planR zs m0 = (planF (sumsL zs) 12).take (m0 / 5).toNat from if_pos ⟨hok, hin⟩]
      obtain ⟨hm0, hm1⟩ := inB_true.1 hin
      go_enter Try.func26, Try.ntmps26
      go_wp2_with (fail)
      refine (implNotesOk_any zs _ _ HR.out).mono ?_
      rintro e w1 ⟨rfl, hb⟩
      go_wp2_with (fail)
      refine (cw m0 _ _ _ hin _).mono ?_
      rintro e w2 ⟨rfl, rfl⟩
      go_wp2_with (fail)
      refine (implWeights12 zs hok _ _ (HR.out.below hb)).mono ?_
      rintro e w2 ⟨a0, a1, a2, a3, a4, a5, a6, a7, a8, a9, a10, a11, rfl, HLE, hb2⟩
      have hB := bvia hb hb2
      clear hb hb2
      have HNN := Lib.hid (sums_nonneg hok)
      rw [HLE.out] at HNN
      have HIX := Lib.hid (run_index_arr [a0, a1, a2, a3, a4, a5, a6, a7, a8, a9, a10, a11] rfl)
      have hBs := hB.size
      have e0 : (w2.alloc (.cells #[] 3)).heap.size = w2.heap.size + 1 := by simp
      have HO : Hid (OwI ((w2.alloc (.cells #[] 3)).alloc (.cells #[.int .i64 a0, .int .i64 a1, .int .i64 a2, .int .i64 a3, .int .i64 a4, .int .i64 a5, .int .i64 a6, .int .i64 a7, .int .i64 a8, .int .i64 a9, .int .i64 a10, .int .i64 a11] 49)) w.heap.size (.slice (some ⟨w2.heap.size, 0, none⟩) 0 0) []) := (OwI.empty w2 w.heap.size hBs).alloc _
      have HA : Hid (OwArr ((w2.alloc (.cells #[] 3)).alloc (.cells #[.int .i64 a0, .int .i64 a1, .int .i64 a2, .int .i64 a3, .int .i64 a4, .int .i64 a5, .int .i64 a6, .int .i64 a7, .int .i64 a8, .int .i64 a9, .int .i64 a10, .int .i64 a11] 49)) w.heap.size (w2.heap.size + 1) [a0, a1, a2, a3, a4, a5, a6, a7, a8, a9, a10, a11]) := by
        have h := OwArr.made (w2.alloc (.cells #[] 3)) (L := [a0, a1, a2, a3, a4, a5, a6, a7, a8, a9, a10, a11]) rfl
        rw [e0] at h
        exact own_base h (by omega)
      replace hB := (hB.alloc hB.size (.cells #[] 3)).alloc (by rw [e0]; omega) (.cells #[.int .i64 a0, .int .i64 a1, .int .i64 a2, .int .i64 a3, .int .i64 a4, .int .i64 a5, .int .i64 a6, .int .i64 a7, .int .i64 a8, .int .i64 a9, .int .i64 a10, .int .i64 a11] 49)
      go_wp2_with (fail)
      obtain ⟨W, hW⟩ : ∃ W, W = (w2.alloc (.cells #[] 3)).alloc (.cells #[.int .i64 a0, .int .i64 a1, .int .i64 a2, .int .i64 a3, .int .i64 a4, .int .i64 a5, .int .i64 a6, .int .i64 a7, .int .i64 a8, .int .i64 a9, .int .i64 a10, .int .i64 a11] 49) := ⟨_, rfl⟩
      rw [← hW] at hB HA HO ⊢
      clear hW e0
      have hv : (Value.agg #[.int .i64 a0, .int .i64 a1, .int .i64 a2, .int .i64 a3, .int .i64 a4, .int .i64 a5, .int .i64 a6, .int .i64 a7, .int .i64 a8, .int .i64 a9, .int .i64 a10, .int .i64 a11]) = .agg (ints [a0, a1, a2, a3, a4, a5, a6, a7, a8, a9, a10, a11]).toArray := rfl
      rw [hv]
      clear hv
      have hL : [a0, a1, a2, a3, a4, a5, a6, a7, a8, a9, a10, a11].length = 12 := rfl
      generalize [a0, a1, a2, a3, a4, a5, a6, a7, a8, a9, a10, a11] = L at HLE HA HIX HNN hL ⊢
      generalize hga : w2.heap.size + 1 = ga at HA ⊢
      have HD0 : Hid ((Value.slice (some ⟨w2.heap.size, 0, none⟩) 0 0).ownBlock ≠ some ga) := by show _ ≠ _; simp [Value.ownBlock]; omega
      clear hga
      go_loopw [6, 22] (fun u i wr => ∃ c : Nat, c ≤ 12 ∧ i = .int .i64 c ∧ OwI wr w.heap.size u (planF L c) ∧ Hid (OwArr wr w.heap.size ga L) ∧ Hid (u.ownBlock ≠ some ga) ∧ Below w.heap.size w wr) (fun _ i _ => 12 - (intOf i).toNat)
      case atStart => exact ⟨0, by omega, rfl, HO.out, HA.out, HD0.out, hB⟩
      case round =>
       as_aux_lemma =>
        clear HO HA HD0 hB
        obtain ⟨c, hc, rfl, ho, HA, HD, hB⟩ := hrel
        have hP12 := planF_length L c
        have HPM := Lib.hid (planF_spec L c).2
        by_cases hlt : c < 12
        · have hi1 := HIX.out c hlt
          have q0 : (c : Int) < 12 := by omega
          have HVAL : Hid (L.getD c 0 = val L c) := rfl
          have HSK := Lib.hid (fun h : val L c = 0 => planF_skip h)
          have HPT := Lib.hid (fun h : val L c ≠ 0 => planF_put h)
          have HINS : Hid (insF L (planF L c) c = (planF L c).take (posF L (val L c) (planF L c) (planF L c).length) ++ (c : Int) :: (planF L c).drop (posF L (val L c) (planF L c) (planF L c).length)) := rfl
          have HPS := Lib.hid (posF_le L (val L c) (planF L c))
          have HPG := Lib.hid (fun (k : Nat) (h : val L ((planF L c).getD k 0) < val L c) => posF_go h)
          have HPE := Lib.hid (fun (k : Nat) (h : ¬ val L ((planF L c).getD k 0) < val L c) => posF_stop h)
          rw [HVAL.out] at hi1
          clear HVAL
          generalize val L (c : Int) = x at hi1 HSK HPT HINS HPS HPG HPE
          generalize hP : planF L c = P at hP12 HPM ho HINS HPS HPG HPE HSK HPT
          clear hP
          by_cases hx : x = 0
          · have HN := Lib.hid (HSK.out hx)
            subst hx
            clear HSK HPT HINS HPS HPG HPE
            go_wp2_with (fail)
            exact ⟨⟨c + 1, by omega, by go_num, by rw [HN.out]; exact ho, HA, HD, hB⟩, by simp [intOf]; omega⟩
          · have HN := Lib.hid (HPT.out hx)
            have hxb : (x == 0) = false := beq_eq_false_iff_ne.2 hx
            rw [HINS.out] at HN
            clear HSK HPT HINS
            obtain ⟨A0, ca, rfl, hcc, hmm, hadP⟩ := ho.form
            have HO := Lib.hid ho
            clear ho
            go_wp2_with (fail)
            go_loop [9] (fun k => ∃ q : Nat, q ≤ P.length ∧ k = .int .i64 q ∧ Hid (posF L x P q = posF L x P P.length)) (fun k => (intOf k).toNat)
            case atStart => exact ⟨P.length, Nat.le_refl _, rfl, rfl⟩
            case round =>
             as_aux_lemma =>
              obtain ⟨q, hq, rfl, HQ⟩ := hrel
              have hstop : (∃ k, q = k + 1 ∧ val L (P.getD k 0) < x) ∨ (Hid (q = posF L x P P.length) ∧ ∀ k, q = k + 1 → ¬ val L (P.getD k 0) < x) := by
                cases q with
                | zero => exact .inr ⟨HQ.out, fun k h => by omega⟩
                | succ k =>
                  by_cases hv : val L (P.getD k 0) < x
                  · exact .inl ⟨k, rfl, hv⟩
                  · refine .inr ⟨?_, fun k' h => ?_⟩
                    · show _ = _
                      rw [← HQ.out, HPE.out k (by omega)]
                    · obtain rfl : k = k' := by omega
                      exact hv
              rcases hstop with ⟨k, rfl, hv⟩ | ⟨HF, hstop⟩
              · obtain ⟨g, rfl, hg, hgw⟩ := hadP (by omega)
                have hck := (HO.out.cell (k := k) (by omega)).1
                have hmem : P.getD k 0 ∈ P := by rw [List.getD_eq_getElem?_getD, List.getElem?_eq_getElem (by omega)]; exact List.getElem_mem _
                obtain ⟨e0, e1, _⟩ := (HPM.out _).1 hmem
                have HNX := Lib.hid ((HPG.out k hv).symm.trans HQ.out)
                generalize P.getD k 0 = e at hck hv e0 e1
                obtain ⟨n, rfl⟩ : ∃ n : Nat, e = n := ⟨e.toNat, by omega⟩
                have hcn := (HA.out.cell (j := n) (by omega)).1
                have hvn : val L (n : Int) = L.getD n 0 := rfl
                rw [hvn] at hv
                generalize L.getD n 0 = y at hcn hv
                have q1 : (k : Int) < (P.length : Int) := by omega
                have q2 : (n : Int) < 12 := by omega
                clear hvn hmem HQ
                go_wp2
                exact ⟨⟨k, by omega, by go_num, HNX⟩, by simp [intOf]⟩
              · rcases Nat.eq_zero_or_pos q with h0 | h0
                · have hz : ¬ (0 : Int) < (q : Int) := by omega
                  clear h0 hstop HQ HPG HPE
                  obtain ⟨p, rfl⟩ : ∃ p, q = p := ⟨_, rfl⟩
                  have hpl : q ≤ P.length := hq
                  go_wp2_with (at_builtin; refine wpList_pushI rfl (.tmp 45) (.tmp 46) rfl _ _ w.heap.size _ _ rfl HO.out rfl (by omega) hB.size ?_; intro v1 w3 o1 hgr hat; have hB3 := HO.out.grown_below hB (Nat.le_refl _) hgr; have HA3 : Hid (OwArr w3 w.heap.size ga L) := World.ownsRow.kept HA.out hgr (.inr (fun e => HD.out e.symm)); have HD3 := Lib.hid (ob_next HD.out HA.out.lt.2 hat); have HZL := Lib.hid (show (P ++ [(0 : Int)]).length = P.length + 1 by simp); generalize hZe : P ++ [(0 : Int)] = Z at o1 HZL; have HZE := Lib.hid hZe; clear hZe; obtain ⟨g1, ca1, rfl, hg1, hgw1, hcap1, hmax1⟩ := own_some o1 (by rw [HZL.out]; omega); clear hgr hat)
                  have q1 : (q : Int) ≤ (ca1 : Int) := by have := HZL.out; omega
                  have q2 : q ≤ ca1 := by have := HZL.out; omega
                  have q3 : IntKind.i64.wrap ((q : Int) + 1) = (q : Int) + 1 := IntWalk.i64_in _ (by omega)
                  have q4 : (q : Int) + 1 ≤ (Z.length : Int) := by have := HZL.out; omega
                  have q5 : ((q : Int) + 1).toNat = q + 1 := by omega
                  have q6 : (Z.length : Int) ≤ (ca1 : Int) := by omega
                  have q7 : (0 : Int) ≤ (q : Int) + 1 := by omega
                  have q8 : (q : Int) ≤ (Z.length : Int) := by have := HZL.out; omega
                  refine wp_region_held_drew (S := (fun _ => True)) (by kernel_rfl) (by first | (dsimp only; done) | ((try dsimp only); skip)) (fun hHeld => ?_)
                  refine takeI (i := 0) (oi := _) (v := _) (by simp only [List.getElem?_toArray, List.getElem?_cons_succ, List.getElem?_cons_zero]; exact rfl) ⟨by kernel_rfl, by kernel_rfl, by kernel_rfl, by exact fun _ _ _ h => h, Or.inl ⟨by rfl, by (intro w hSw; (try dsimp only at hSw); go_simp; (try with_reducible rfl))⟩, by assumption, ?_⟩
                  try simp only [Act.put, List.setIfInBounds_toArray, List.set_cons_zero, List.set_cons_succ]
                  refine takeI (i := 1) (oi := _) (v := _) (by simp only [List.getElem?_toArray, List.getElem?_cons_succ, List.getElem?_cons_zero]; exact rfl) ⟨by kernel_rfl, by kernel_rfl, by kernel_rfl, by exact fun _ _ _ h => h, Or.inl ⟨by rfl, by (intro w hSw; (try dsimp only at hSw); go_simp; (try with_reducible rfl))⟩, by assumption, ?_⟩
                  try simp only [Act.put, List.setIfInBounds_toArray, List.set_cons_zero, List.set_cons_succ]
                  refine takeI (i := 2) (oi := _) (v := _) (by simp only [List.getElem?_toArray, List.getElem?_cons_succ, List.getElem?_cons_zero]; exact rfl) ⟨by kernel_rfl, by kernel_rfl, by kernel_rfl, by exact fun _ _ _ h => h, Or.inl ⟨by rfl, by (intro w hSw; (try dsimp only at hSw); go_simp; (try with_reducible rfl))⟩, by assumption, ?_⟩
                  try simp only [Act.put, List.setIfInBounds_toArray, List.set_cons_zero, List.set_cons_succ]
                  refine takeI (i := 3) (oi := _) (v := _) (by simp only [List.getElem?_toArray, List.getElem?_cons_succ, List.getElem?_cons_zero]; exact rfl) ⟨by kernel_rfl, by kernel_rfl, by kernel_rfl, by exact fun _ _ _ h => h, Or.inl ⟨by rfl, by (intro w hSw; (try dsimp only at hSw); go_simp; (try with_reducible rfl))⟩, by assumption, ?_⟩
                  try simp only [Act.put, List.setIfInBounds_toArray, List.set_cons_zero, List.set_cons_succ]
                  refine takeI (i := 4) (oi := _) (v := _) (by simp only [List.getElem?_toArray, List.getElem?_cons_succ, List.getElem?_cons_zero]; exact rfl) ⟨by kernel_rfl, by kernel_rfl, by kernel_rfl, by exact fun _ _ _ h => h, Or.inl ⟨by rfl, by (intro w hSw; (try dsimp only at hSw); go_simp; (try with_reducible rfl))⟩, by assumption, ?_⟩
                  try simp only [Act.put, List.setIfInBounds_toArray, List.set_cons_zero, List.set_cons_succ]
                  refine takeI (i := 5) (oi := _) (v := _) (by simp only [List.getElem?_toArray, List.getElem?_cons_succ, List.getElem?_cons_zero]; exact rfl) ⟨by kernel_rfl, by kernel_rfl, by kernel_rfl, by exact fun _ _ _ h => h, Or.inl ⟨by rfl, by (intro w hSw; (try dsimp only at hSw); go_simp; (try with_reducible rfl))⟩, by assumption, ?_⟩
                  try simp only [Act.put, List.setIfInBounds_toArray, List.set_cons_zero, List.set_cons_succ]
                  refine takeI (i := 6) (oi := _) (v := _) (by simp only [List.getElem?_toArray, List.getElem?_cons_succ, List.getElem?_cons_zero]; exact rfl) ⟨by kernel_rfl, by kernel_rfl, by kernel_rfl, by exact fun _ _ _ h => h, Or.inl ⟨by rfl, by (intro w hSw; (try dsimp only at hSw); go_simp; (try with_reducible rfl))⟩, by assumption, ?_⟩
                  try simp only [Act.put, List.setIfInBounds_toArray, List.set_cons_zero, List.set_cons_succ]
                  refine wpAnyH_ready (rs := [7]) (by kernel_rfl) (by simp) ?_
                  refine AllReadyH.cons (o := _) (by simp only [List.getElem?_toArray, List.getElem?_cons_succ, List.getElem?_cons_zero]; exact rfl) (fun K hK => ?_) AllReadyH.nil
                  refine step_shift rfl (.tmp 51) (.tmp 54) rfl _ w.heap.size g1 ca1 q Z o1.drew (by have := HZL.out; omega) rfl rfl ?_; intro w5 v5 o5 hg5
                  refine hK.out _ _ (by first | (dsimp only; done) | ((try dsimp only); skip)) (fun hHeld => ?_)
                  clear hK K
                  try simp only [Act.put, List.setIfInBounds_toArray, List.set_cons_zero, List.set_cons_succ]
                  refine wpAnyH_done (by kernel_rfl) ?_ _
                  have hg6 : w3.grownBy w5 (some g1) := ⟨hg5.os, hg5.tape, hg5.output, hg5.size, hg5.block⟩
                  have HA5 : Hid (OwArr w5 w.heap.size ga L) := World.ownsRow.kept HA3.out hg6 (.inr (fun e => HD3.out e.symm))
                  have hB5 := o1.grown_below hB3 (Nat.le_refl _) hg6
                  have hZ5 : (Z.take (q + 1) ++ (Z.drop q).take (Z.length - (q + 1))).length = Z.length := by have := HZL.out; rw [List.length_append, List.length_take, List.length_take, List.length_drop]; omega
                  have hsh := shift_ins hpl (c : Int) 0
                  rw [HZE.out] at hsh
                  have o5' := o5
                  clear o5
                  generalize (Z.take (q + 1) ++ (Z.drop q).take (Z.length - (q + 1))) = Y at o5' hZ5 hsh
                  have hql : q < Y.length := by have := HZL.out; omega
                  rw [← hZ5] at o5'
                  obtain ⟨hcp, hfp⟩ := o5'.cell hql
                  have hst := o5'.set q (c : Int)
                  rw [hsh, HF.out, ← HN.out, hZ5, ← HF.out] at hst
                  generalize Y.getD q 0 = yy at hcp
                  have HA6 : Hid (OwArr (w5.setCell ⟨g1, q, none⟩ (.int .i64 c)) w.heap.size ga L) := World.ownsRow.kept HA5.out hst.2 (.inr (fun e => HD3.out e.symm))
                  have hB6 := o5'.grown_below hB5 (Nat.le_refl _) hst.2
                  have HST := Lib.hid hst.1
                  have HB6 := Lib.hid hB6
                  clear hst hB6 o5' hsh hZ5 hg5 hg6 o1
                  go_wp2
                  exact ⟨⟨c + 1, by omega, by go_num, HST.out, HA6, HD3, HB6.out⟩, by simp [intOf]; omega⟩
                · obtain ⟨p, rfl⟩ : ∃ p, q = p := ⟨_, rfl⟩
                  obtain ⟨g, rfl, hg, hgw⟩ := hadP (by omega)
                  have hck := (HO.out.cell (k := q - 1) (by omega)).1
                  have hmem : P.getD (q - 1) 0 ∈ P := by rw [List.getD_eq_getElem?_getD, List.getElem?_eq_getElem (by omega)]; exact List.getElem_mem _
                  obtain ⟨e0, e1, _⟩ := (HPM.out _).1 hmem
                  have hv := hstop (q - 1) (by omega)
                  generalize P.getD (q - 1) 0 = e at hck hv e0 e1
                  obtain ⟨n, rfl⟩ : ∃ n : Nat, e = n := ⟨e.toNat, by omega⟩
                  have hcn := (HA.out.cell (j := n) (by omega)).1
                  have hvn : val L (n : Int) = L.getD n 0 := rfl
                  rw [hvn] at hv
                  generalize L.getD n 0 = y at hcn hv
                  have hvd : decide (y < x) = false := decide_eq_false hv
                  have hz : (0 : Int) < (q : Int) := by omega
                  have r2 : IntKind.i64.wrap ((q : Int) - 1) = (q : Int) - 1 := IntWalk.i64_in _ (by omega)
                  have r4 : (q : Int) - 1 < (P.length : Int) := by omega
                  have r5 : ((q : Int) - 1).toNat = q - 1 := by omega
                  have r6 : 1 ≤ q := h0
                  have r7 : (n : Int) < 12 := by omega
                  have r8 : (1 : Int) ≤ (q : Int) := by omega
                  clear hvn hmem HQ hstop HPG HPE e0 e1
                  have hpl : q ≤ P.length := hq
                  go_wp2_with (at_builtin; refine wpList_pushI rfl (.tmp 45) (.tmp 46) rfl _ _ w.heap.size _ _ rfl HO.out rfl (by omega) hB.size ?_; intro v1 w3 o1 hgr hat; have hB3 := HO.out.grown_below hB (Nat.le_refl _) hgr; have HA3 : Hid (OwArr w3 w.heap.size ga L) := World.ownsRow.kept HA.out hgr (.inr (fun e => HD.out e.symm)); have HD3 := Lib.hid (ob_next HD.out HA.out.lt.2 hat); have HZL := Lib.hid (show (P ++ [(0 : Int)]).length = P.length + 1 by simp); generalize hZe : P ++ [(0 : Int)] = Z at o1 HZL; have HZE := Lib.hid hZe; clear hZe; obtain ⟨g1, ca1, rfl, hg1, hgw1, hcap1, hmax1⟩ := own_some o1 (by rw [HZL.out]; omega); clear hgr hat)
                  have q1 : (q : Int) ≤ (ca1 : Int) := by have := HZL.out; omega
                  have q2 : q ≤ ca1 := by have := HZL.out; omega
                  have q3 : IntKind.i64.wrap ((q : Int) + 1) = (q : Int) + 1 := IntWalk.i64_in _ (by omega)
                  have q4 : (q : Int) + 1 ≤ (Z.length : Int) := by have := HZL.out; omega
                  have q5 : ((q : Int) + 1).toNat = q + 1 := by omega
                  have q6 : (Z.length : Int) ≤ (ca1 : Int) := by omega
                  have q7 : (0 : Int) ≤ (q : Int) + 1 := by omega
                  have q8 : (q : Int) ≤ (Z.length : Int) := by have := HZL.out; omega
                  refine wp_region_held_drew (S := (fun _ => True)) (by kernel_rfl) (by first | (dsimp only; done) | ((try dsimp only); skip)) (fun hHeld => ?_)
                  refine takeI (i := 0) (oi := _) (v := _) (by simp only [List.getElem?_toArray, List.getElem?_cons_succ, List.getElem?_cons_zero]; exact rfl) ⟨by kernel_rfl, by kernel_rfl, by kernel_rfl, by exact fun _ _ _ h => h, Or.inl ⟨by rfl, by (intro w hSw; (try dsimp only at hSw); go_simp; (try with_reducible rfl))⟩, by assumption, ?_⟩
                  try simp only [Act.put, List.setIfInBounds_toArray, List.set_cons_zero, List.set_cons_succ]
                  refine takeI (i := 1) (oi := _) (v := _) (by simp only [List.getElem?_toArray, List.getElem?_cons_succ, List.getElem?_cons_zero]; exact rfl) ⟨by kernel_rfl, by kernel_rfl, by kernel_rfl, by exact fun _ _ _ h => h, Or.inl ⟨by rfl, by (intro w hSw; (try dsimp only at hSw); go_simp; (try with_reducible rfl))⟩, by assumption, ?_⟩
                  try simp only [Act.put, List.setIfInBounds_toArray, List.set_cons_zero, List.set_cons_succ]
                  refine takeI (i := 2) (oi := _) (v := _) (by simp only [List.getElem?_toArray, List.getElem?_cons_succ, List.getElem?_cons_zero]; exact rfl) ⟨by kernel_rfl, by kernel_rfl, by kernel_rfl, by exact fun _ _ _ h => h, Or.inl ⟨by rfl, by (intro w hSw; (try dsimp only at hSw); go_simp; (try with_reducible rfl))⟩, by assumption, ?_⟩
                  try simp only [Act.put, List.setIfInBounds_toArray, List.set_cons_zero, List.set_cons_succ]
                  refine takeI (i := 3) (oi := _) (v := _) (by simp only [List.getElem?_toArray, List.getElem?_cons_succ, List.getElem?_cons_zero]; exact rfl) ⟨by kernel_rfl, by kernel_rfl, by kernel_rfl, by exact fun _ _ _ h => h, Or.inl ⟨by rfl, by (intro w hSw; (try dsimp only at hSw); go_simp; (try with_reducible rfl))⟩, by assumption, ?_⟩
                  try simp only [Act.put, List.setIfInBounds_toArray, List.set_cons_zero, List.set_cons_succ]
                  refine takeI (i := 4) (oi := _) (v := _) (by simp only [List.getElem?_toArray, List.getElem?_cons_succ, List.getElem?_cons_zero]; exact rfl) ⟨by kernel_rfl, by kernel_rfl, by kernel_rfl, by exact fun _ _ _ h => h, Or.inl ⟨by rfl, by (intro w hSw; (try dsimp only at hSw); go_simp; (try with_reducible rfl))⟩, by assumption, ?_⟩
                  try simp only [Act.put, List.setIfInBounds_toArray, List.set_cons_zero, List.set_cons_succ]
                  refine takeI (i := 5) (oi := _) (v := _) (by simp only [List.getElem?_toArray, List.getElem?_cons_succ, List.getElem?_cons_zero]; exact rfl) ⟨by kernel_rfl, by kernel_rfl, by kernel_rfl, by exact fun _ _ _ h => h, Or.inl ⟨by rfl, by (intro w hSw; (try dsimp only at hSw); go_simp; (try with_reducible rfl))⟩, by assumption, ?_⟩
                  try simp only [Act.put, List.setIfInBounds_toArray, List.set_cons_zero, List.set_cons_succ]
                  refine takeI (i := 6) (oi := _) (v := _) (by simp only [List.getElem?_toArray, List.getElem?_cons_succ, List.getElem?_cons_zero]; exact rfl) ⟨by kernel_rfl, by kernel_rfl, by kernel_rfl, by exact fun _ _ _ h => h, Or.inl ⟨by rfl, by (intro w hSw; (try dsimp only at hSw); go_simp; (try with_reducible rfl))⟩, by assumption, ?_⟩
                  try simp only [Act.put, List.setIfInBounds_toArray, List.set_cons_zero, List.set_cons_succ]
                  refine wpAnyH_ready (rs := [7]) (by kernel_rfl) (by simp) ?_
                  refine AllReadyH.cons (o := _) (by simp only [List.getElem?_toArray, List.getElem?_cons_succ, List.getElem?_cons_zero]; exact rfl) (fun K hK => ?_) AllReadyH.nil
                  refine step_shift rfl (.tmp 51) (.tmp 54) rfl _ w.heap.size g1 ca1 q Z o1.drew (by have := HZL.out; omega) rfl rfl ?_; intro w5 v5 o5 hg5
                  refine hK.out _ _ (by first | (dsimp only; done) | ((try dsimp only); skip)) (fun hHeld => ?_)
                  clear hK K
                  try simp only [Act.put, List.setIfInBounds_toArray, List.set_cons_zero, List.set_cons_succ]
                  refine wpAnyH_done (by kernel_rfl) ?_ _
                  have hg6 : w3.grownBy w5 (some g1) := ⟨hg5.os, hg5.tape, hg5.output, hg5.size, hg5.block⟩
                  have HA5 : Hid (OwArr w5 w.heap.size ga L) := World.ownsRow.kept HA3.out hg6 (.inr (fun e => HD3.out e.symm))
                  have hB5 := o1.grown_below hB3 (Nat.le_refl _) hg6
                  have hZ5 : (Z.take (q + 1) ++ (Z.drop q).take (Z.length - (q + 1))).length = Z.length := by have := HZL.out; rw [List.length_append, List.length_take, List.length_take, List.length_drop]; omega
                  have hsh := shift_ins hpl (c : Int) 0
                  rw [HZE.out] at hsh
                  have o5' := o5
                  clear o5
                  generalize (Z.take (q + 1) ++ (Z.drop q).take (Z.length - (q + 1))) = Y at o5' hZ5 hsh
                  have hql : q < Y.length := by have := HZL.out; omega
                  rw [← hZ5] at o5'
                  obtain ⟨hcp, hfp⟩ := o5'.cell hql
                  have hst := o5'.set q (c : Int)
                  rw [hsh, HF.out, ← HN.out, hZ5, ← HF.out] at hst
                  generalize Y.getD q 0 = yy at hcp
                  have HA6 : Hid (OwArr (w5.setCell ⟨g1, q, none⟩ (.int .i64 c)) w.heap.size ga L) := World.ownsRow.kept HA5.out hst.2 (.inr (fun e => HD3.out e.symm))
                  have hB6 := o5'.grown_below hB5 (Nat.le_refl _) hst.2
                  have HST := Lib.hid hst.1
                  have HB6 := Lib.hid hB6
                  clear hst hB6 o5' hsh hZ5 hg5 hg6 o1
                  go_wp2
                  exact ⟨⟨c + 1, by omega, by go_num, HST.out, HA6, HD3, HB6.out⟩, by simp [intOf]; omega⟩
        · obtain rfl : c = 12 := by omega
          have HK : Hid ((planF L 12).take (m0 / 5).toNat = (planF (sumsL zs) 12).take (m0 / 5).toNat) := by show _ = _; rw [HLE.out]
          clear HIX HNN HPM HA HD
          generalize planF L 12 = P at hP12 ho HK
          obtain ⟨d, hd⟩ : ∃ d : Nat, m0 / 5 = d := ⟨(m0 / 5).toNat, by omega⟩
          have HK2 : Hid (P.take d = (planF (sumsL zs) 12).take (m0 / 5).toNat) := by show _ = _; rw [← HK.out, hd, Int.toNat_natCast]
          clear HK
          have HK := HK2
          clear HK2
          rcases ho.slice with ⟨rfl, rfl⟩ | ⟨g, ca, rfl, hg, hgw, hcap, hmax⟩
          · have hdd : min 0 (d : Int) = 0 := by omega
            go_wp2
            go_ret
            exact ⟨_, rfl, by rw [← HK.out, List.take_nil]; exact OwI.nil _ _, hB⟩
          · by_cases hdl : (d : Int) < (P.length : Int)
            · go_wp2
              go_ret
              exact ⟨_, rfl, by rw [← HK.out]; exact ho.pre (by omega), hB⟩
            · go_wp2
              go_ret
              exact ⟨_, rfl, by first | (rw [← HK.out, List.take_of_length_le (by omega)]; exact ho) | (have e := HK.out; rw [hd, Int.toNat_natCast] at e; rw [← e, List.take_of_length_le (by omega)]; exact ho), hB⟩
    · have hin' : inB m0 0 600 = false := by simpa using hin
      rw [show planR zs m0 = [] from if_neg (fun h => hin h.2)]
      clear hin
      go_enter Try.func26, Try.ntmps26
      go_wp2_with (fail)
      refine (implNotesOk_any zs _ _ HR.out).mono ?_
      rintro e w1 ⟨rfl, hb⟩
      go_wp2_with (fail)
      refine (cw m0 _ _ _ hin' _).mono ?_
      rintro e w2 ⟨rfl, rfl⟩
      go_wp2_with (fail)
      go_ret
      exact ⟨_, rfl, OwI.nil _ _, hb⟩
  · have hok' : notesB zs = false := by simpa using hok
    rw [show planR zs m0 = [] from if_neg (fun h => hok h.1)]
    clear hok
    go_enter Try.func26, Try.ntmps26
    go_wp2_with (fail)
    refine (implNotesOk_any zs _ _ HR.out).mono ?_
    rintro e w1 ⟨rfl, hb⟩
    go_wp2_with (fail)
    go_ret
    exact ⟨_, rfl, OwI.nil _ _, hb⟩
theorem walkFnExactRehearsalPlan (zs : List (Int × Int × Int)) (m0 : Int) (vzs : Value) (w : World) (hzs : RdNote w vzs zs) : Calls Try.prog 8 #[vzs, .int .i64 m0] w fun e w' => e = .returned (.bool true) ∧ Below w.heap.size w w' := by
  have hmxzs : zs.length ≤ 9223372036854775807 := by obtain ⟨_, _, _, _, _, h1, h2, _⟩ := hzs.open; omega
  obtain ⟨azs, capzs, rfl⟩ := hzs.shape
  by_cases hlzs : zs.length ≤ 1048576
  · skip
    have hB := Below.refl w.heap.size w
    have hyl := planR_length zs m0
    go_enter Try.func8, Try.ntmps8
    go_wp2_with (fail)
    refine (szNoteS_ok _ _ _ _ (by omega) (by omega) _).mono ?_
    rintro e w' ⟨rfl, rfl⟩
    go_wp2_with (fail)
    refine (toNoteS_any zs (by omega) _ _ (hzs.below hB)).mono ?_
    rintro e w1 ⟨ut0, rfl, ot0, hb⟩
    have bt0 := hB.size
    replace hB := bvia hB hb
    clear hb
    go_wp2_with (fail)
    refine (specRehearsalPlan_any zs m0  _ _ ot0.rd).mono ?_
    rintro e w2 ⟨uw, rfl, ow, hb⟩
    have dt0_w := dis_of ot0.lt ow.lt (Nat.le_refl _)
    have dw_t0 := dis_of' ot0.lt ow.lt (Nat.le_refl _)
    have bw := hB.size
    replace ot0 := ot0.below hb
    replace hB := bvia hB hb
    clear hb
    clear ot0
    go_wp2_with (fail)
    refine (toNoteS_any zs (by omega) _ _ (hzs.below hB)).mono ?_
    rintro e w3 ⟨ux0, rfl, ox0, hb⟩
    have dw_x0 := dis_of ow.lt ox0.lt (Nat.le_refl _)
    have dx0_w := dis_of' ow.lt ox0.lt (Nat.le_refl _)
    have bx0 := hB.size
    replace ow := ow.below hb
    replace hB := bvia hB hb
    clear hb
    go_wp2_with (fail)
    refine (implRehearsalPlan_any zs m0  _ _ ox0.rd).mono ?_
    rintro e w4 ⟨ug, rfl, og, hb⟩
    have dw_g := dis_of ow.lt og.lt (Nat.le_refl _)
    have dg_w := dis_of' ow.lt og.lt (Nat.le_refl _)
    have dx0_g := dis_of ox0.lt og.lt (Nat.le_refl _)
    have dg_x0 := dis_of' ox0.lt og.lt (Nat.le_refl _)
    have bg := hB.size
    replace ow := ow.below hb
    replace ox0 := ox0.below hb
    replace hB := bvia hB hb
    clear hb
    go_wp2_with (fail)
    refine (eqIntS_any (planR zs m0) _ _ _ og.rd ow.rd).mono ?_
    rintro e w5 ⟨rfl, hd⟩
    have hb := hd.below; clear hd
    replace ow := ow.below hb
    replace ox0 := ox0.below hb
    replace og := og.below hb
    replace hB := bvia hB hb
    clear hb
    go_wp2_with (fail)
    refine (toNoteS_any zs (by omega) _ _ (hzs.below hB)).mono ?_
    rintro e w6 ⟨uy0, rfl, oy0, hb⟩
    have dw_y0 := dis_of ow.lt oy0.lt (Nat.le_refl _)
    have dy0_w := dis_of' ow.lt oy0.lt (Nat.le_refl _)
    have dx0_y0 := dis_of ox0.lt oy0.lt (Nat.le_refl _)
    have dy0_x0 := dis_of' ox0.lt oy0.lt (Nat.le_refl _)
    have dg_y0 := dis_of og.lt oy0.lt (Nat.le_refl _)
    have dy0_g := dis_of' og.lt oy0.lt (Nat.le_refl _)
    have by0 := hB.size
    replace ow := ow.below hb
    replace ox0 := ox0.below hb
    replace og := og.below hb
    replace hB := bvia hB hb
    clear hb
    go_wp2_with (fail)
    refine (eqNoteS_any zs _ _ _ ox0.rd oy0.rd).mono ?_
    rintro e w7 ⟨rfl, hb⟩
    replace ow := ow.below hb
    replace ox0 := ox0.below hb
    replace og := og.below hb
    replace oy0 := oy0.below hb
    replace hB := bvia hB hb
    clear hb
    clear oy0
    go_wp2_with (fail)
    refine (markNoteS_any zs _ (by omega) (by omega) _ _ _ ox0).mono ?_
    rintro e w8 ⟨rfl, om, hg⟩
    replace ow := ow.kept hg dw_x0
    replace og := og.kept hg dg_x0
    replace hB := ox0.grown_below hB bx0 hg
    clear hg ox0
    have ox0 := om
    clear om
    go_wp2_with (fail)
    refine (eqIntS_any (planR zs m0) _ _ _ og.rd ow.rd).mono ?_
    rintro e w9 ⟨rfl, hd⟩
    have hb := hd.below; clear hd
    replace ow := ow.below hb
    replace ox0 := ox0.below hb
    replace og := og.below hb
    replace hB := bvia hB hb
    clear hb
    clear ox0
    go_wp2_with (fail)
    refine (markIntS_any (planR zs m0) _ (by omega) (by omega) _ _ _ og).mono ?_
    rintro e w10 ⟨rfl, om, hg⟩
    replace ow := ow.kept hg dw_g
    replace hB := og.grown_below hB bg hg
    clear hg og
    have og := om
    clear om
    go_wp2_with (fail)
    refine (heldIntS_any (planR zs m0).length 1 (by omega) (by omega) _ _ og.rd).mono ?_
    rintro e w11 ⟨rfl, rfl⟩
    go_wp2_with (fail)
    refine (toNoteS_any zs (by omega) _ _ (hzs.below hB)).mono ?_
    rintro e w12 ⟨us0, rfl, os0, hb⟩
    have dw_s0 := dis_of ow.lt os0.lt (Nat.le_refl _)
    have ds0_w := dis_of' ow.lt os0.lt (Nat.le_refl _)
    have dg_s0 := dis_of og.lt os0.lt (Nat.le_refl _)
    have ds0_g := dis_of' og.lt os0.lt (Nat.le_refl _)
    have bs0 := hB.size
    replace ow := ow.below hb
    replace og := og.below hb
    replace hB := bvia hB hb
    clear hb
    go_wp2_with (fail)
    refine (implRehearsalPlan_any zs m0  _ _ os0.rd).mono ?_
    rintro e w13 ⟨uh, rfl, oh, hb⟩
    have dw_h := dis_of ow.lt oh.lt (Nat.le_refl _)
    have dh_w := dis_of' ow.lt oh.lt (Nat.le_refl _)
    have dg_h := dis_of og.lt oh.lt (Nat.le_refl _)
    have dh_g := dis_of' og.lt oh.lt (Nat.le_refl _)
    have ds0_h := dis_of os0.lt oh.lt (Nat.le_refl _)
    have dh_s0 := dis_of' os0.lt oh.lt (Nat.le_refl _)
    have bh := hB.size
    replace ow := ow.below hb
    replace og := og.below hb
    replace os0 := os0.below hb
    replace hB := bvia hB hb
    clear hb
    clear os0
    go_wp2_with (fail)
    refine (eqIntS_any (planR zs m0) _ _ _ oh.rd ow.rd).mono ?_
    rintro e w14 ⟨rfl, hd⟩
    have hb := hd.below; clear hd
    replace ow := ow.below hb
    replace og := og.below hb
    replace oh := oh.below hb
    replace hB := bvia hB hb
    clear hb
    go_wp2_with (fail)
    refine (heldIntS_any (planR zs m0).length 1 (by omega) (by omega) _ _ og.rd).mono ?_
    rintro e w15 ⟨rfl, rfl⟩
    go_wp2_with (fail)
    go_returns
    exact ⟨rfl, hB⟩
  · go_enter Try.func8, Try.ntmps8
    go_wp2_with (fail)
    refine (szNoteS_no _ _ _ (by have := hmxzs; omega) _ (by omega) (by omega) (by omega) _).mono ?_
    rintro e w' ⟨rfl, rfl⟩
    go_wp2_with (fail)
    go_returns
    exact ⟨rfl, Below.refl _ _⟩
end Go.Proofs.Ytcplfempajfcdaa
