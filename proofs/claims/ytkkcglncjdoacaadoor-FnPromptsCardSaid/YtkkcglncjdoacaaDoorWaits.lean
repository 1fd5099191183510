/- The walk of waits: which cue waits for which. -/
import Derived.Test.YtkkcglncjdoacaaDoorMat
import Derived.Test.YtkkcglncjdoacaaDoorCueH
import Derived.Test.YtkkcglncjdoacaaDoorStill
namespace Go.Proofs.YtkkcglncjdoacaaDoor
open Go.ChangeShapes Go.WideShapes Go.ChangeAt Go.RowKit Go.Joins
set_option maxRecDepth 20000
set_option linter.unusedSimpArgs false
set_option linter.unusedVariables false

/-- The table while row i is filled: its first j elements. -/
def fillM (zs : List CueV) (i : Nat) (a : List Int) (j : Nat) : Mx := fun r k => if r = i then (a.take j).any (· == (k : Int)) else R0 zs r k
theorem fillM_succ {zs : List CueV} {i : Nat} {a : List Int} {j q : Nat} {x : Int} (hj : a[j]? = some x) (hx : x = (q : Int)) :
    (fun r k => if r = i ∧ k = q then true else fillM zs i a j r k) = fillM zs i a (j + 1) := by
  have hl := (List.getElem?_eq_some_iff.1 hj).1
  have ht : a.take (j + 1) = a.take j ++ [x] := by rw [List.take_succ_eq_append_getElem hl]; simp [(List.getElem?_eq_some_iff.1 hj).2]
  funext r k
  simp only [fillM, ht, List.any_append, List.any_cons, List.any_nil, Bool.or_false]
  by_cases hr : r = i
  · subst hr
    by_cases hk : k = q
    · subst hk; simp [hx]
    · have : (x == (k : Int)) = false := beq_eq_false_iff_ne.2 (by omega)
      simp [hk, this]
  · simp [hr]
theorem fillM_all {zs : List CueV} {i : Nat} {z : CueV} (hz : zs[i]? = some z) : fillM zs i z.2.1 z.2.1.length = R0 zs := by
  funext r k
  simp only [fillM, List.take_length]
  by_cases hr : r = i
  · subst hr; simp [R0, hz]
  · simp [hr]
theorem fillM_none (zs : List CueV) (i : Nat) (a : List Int) : fillM zs i a 0 = fun r k => if r = i then false else R0 zs r k := by
  funext r k
  simp [fillM]
set_option maxHeartbeats 5000000 in
theorem implWaits_any (zs : List CueV) (hn : zs.length ≤ 12) (hA : ∀ z ∈ zs, ∀ x ∈ z.2.1, 0 ≤ x ∧ x ≤ (zs.length : Int) - 1) (v : Value) (w : World) (h : RdCue w v zs) :
    Calls Tryd.prog 71 #[v] w fun e w' => ∃ G gs, e = .returned (.slice (some ⟨G, 0, none⟩) zs.length zs.length) ∧ Mat w' w.heap.size G zs.length zs.length gs (waitsF zs) ∧ Below w.heap.size w w' := by
  obtain ⟨ad, cap, bl, off, rfl, hcap, hmax, had, hc⟩ := h
  have HC := Lib.hid hc
  have HA := Lib.hid hA
  clear hc hA
  obtain ⟨n, hnn⟩ : ∃ n, n = zs.length := ⟨_, rfl⟩
  rw [← hnn] at hn hcap had HA ⊢
  have HN := Lib.hid hnn
  have hmk := run_make_row' (P := Tryd.prog) 86 88 (.slice none 0 0) 24 underBoolss infoBools rfl .i64 .i64 n (by omega) (by omega)
  have hmk2 := run_make_row' (P := Tryd.prog) 88 4 (.bool false) 1 underBools infoBool rfl .i64 .i64 n (by omega) (by omega)
  have HO := Lib.hid (Mat.start w n (by omega) (fun _ => 0) (R0 zs))
  clear hnn
  go_enter Tryd.func71, Tryd.ntmps71
  go_wp2
  go_loopw [18] (fun i wr => ∃ (k : Nat) (gs : Nat → Nat), k ≤ n ∧ i = .int .i64 k ∧ Hid (Mat wr w.heap.size w.heap.size n k gs (R0 zs)) ∧ Below w.heap.size w wr) (fun i _ => n - (intOf i).toNat)
  case atStart => exact ⟨0, _, Nat.zero_le _, rfl, HO.out, below_alloc1 _ _⟩
  case round =>
   as_aux_lemma =>
    clear HO hmk
    obtain ⟨i, gs, hi, rfl, HM, hB⟩ := hrel
    obtain ⟨wo, rfl⟩ : ∃ wo : World, wo = wr := ⟨_, rfl⟩
    by_cases hlt : i < n
    · obtain rfl := had (by omega)
      obtain ⟨⟨t, a, p⟩, hz, hzm, _, _⟩ := getC (show i < zs.length by have := HN.out; omega)
      obtain ⟨u1, u2, k0, k1, k2, r1, r2⟩ := HC.out i _ hz
      replace k0 := cell_on hB k0
      replace k1 := cell_on hB k1
      replace k2 := cell_on hB k2
      dsimp only at k0 r1 r2
      obtain ⟨b1, d1, bl1, off1, rfl, hc1, hm1, had1, hcc⟩ := r1.open
      obtain ⟨b2, d2, rfl⟩ := r2.shape
      have hAx := HA.out _ hzm
      dsimp only at hAx
      have HAX := Lib.hid hAx
      have HZ := Lib.hid hz
      have HCC := Lib.hid hcc
      clear hz hzm hAx hcc r1 r2
      -- the copy of the cue, then the new row
      have hb1 := below_alloc1 wo (.cells #[.int .i64 t, .slice b1 a.length d1, .slice b2 p.length d2] 31)
      have hB1 := bvia hB hb1
      have M1 := HM.out.below hb1
      obtain ⟨ho, hf⟩ := M1.outer hlt
      rw [if_neg (by omega)] at ho
      have hGl := M1.lt
      obtain ⟨wc, hwc⟩ : ∃ wc, wo.alloc (.cells #[.int .i64 t, .slice b1 a.length d1, .slice b2 p.length d2] 31) = wc := ⟨_, rfl⟩
      have hw1 : wc.cell? ⟨wo.heap.size, 1, none⟩ = some (.slice b1 a.length d1) := by rw [← hwc]; simp [go_sem]
      have hws : wo.heap.size < wc.heap.size := by rw [← hwc]; simp
      rw [hwc] at ho hf hB1 M1 hGl
      have ha := M1.add hlt (by omega)
      have hb2 := below_alloc1 wc (.cells (madeCells #[.bool false] n) 4)
      have ho2 := cell_on hb2 ho
      have hf2 : (wc.alloc (.cells (madeCells #[.bool false] n) 4)).frozen? ⟨w.heap.size, i, none⟩ = false := by rw [hb2.frozen (p := ⟨w.heap.size, i, none⟩) hGl.2]; exact hf
      have hB2 : Below w.heap.size w ((wc.alloc (.cells (madeCells #[.bool false] n) 4)).setCell ⟨w.heap.size, i, none⟩ (.slice (some ⟨wc.heap.size, 0, none⟩) n n)) := (bvia hB1 hb2).setCell (Nat.le_refl _) _
      have hw1' : ((wc.alloc (.cells (madeCells #[.bool false] n) 4)).setCell ⟨w.heap.size, i, none⟩ (.slice (some ⟨wc.heap.size, 0, none⟩) n n)).cell? ⟨wo.heap.size, 1, none⟩ = some (.slice b1 a.length d1) := by
        have hne : (⟨w.heap.size, i, none⟩ : Addr) ≠ ⟨wo.heap.size, 1, none⟩ := by have := HM.out.lt; intro e; injection e; omega
        rw [World.cell?_setCell_other _ _ _ _ hne]
        exact cell_on hb2 hw1
      have hcm : (wc.alloc (.cells (madeCells #[.bool false] n) 4)).setCell ⟨w.heap.size, i, none⟩ (.slice (some ⟨wc.heap.size, 0, none⟩) n n) = (wc.setCell ⟨w.heap.size, i, none⟩ (.slice (some ⟨wc.heap.size, 0, none⟩) n n)).alloc (.cells (madeCells #[.bool false] n) 4) := by simp [go_sem, hGl.2]
      rw [hcm] at ha hB2 hw1'
      clear hcm
      go_wp2_with (fail)
      generalize hwd : (wc.setCell ⟨w.heap.size, i, none⟩ (.slice (some ⟨wc.heap.size, 0, none⟩) n n)).alloc (.cells (madeCells #[.bool false] n) 4) = wd at ha hB2 ⊢
      rw [← fillM_none zs i a] at ha
      have HD := Lib.hid ha
      clear ha hwd hw1' hw1 hwc ho hf ho2 hf2 hb2 hb1 hB1 M1 hGl hws k0 k1 k2 HM hB
      have hal : a.length ≤ 9223372036854775807 := by omega
      go_loopw [31] (fun j wr => ∃ (q : Nat), q ≤ a.length ∧ j = .int .i64 q ∧ Hid (Mat wr w.heap.size w.heap.size n (i + 1) (fun j => if j = i then wc.heap.size else gs j) (fillM zs i a q)) ∧ Below w.heap.size w wr) (fun j _ => a.length - (intOf j).toNat)
      case atStart => exact ⟨0, Nat.zero_le _, rfl, HD.out, hB2⟩
      case round =>
       as_aux_lemma =>
        clear HD hB2
        obtain ⟨q, hq, rfl, HM, hB⟩ := hrel
        by_cases hql : q < a.length
        · obtain rfl := had1 (by omega)
          have hck := cell_on hB (HCC.out q hql)
          obtain ⟨x, hx, hxm, _, _⟩ := getC hql
          have hxd : a.getD q 0 = x := by rw [List.getD_eq_getElem?_getD, hx]; rfl
          rw [hxd] at hck
          obtain ⟨x0, x1⟩ := HAX.out x hxm
          obtain ⟨r, rfl⟩ : ∃ r : Nat, x = (r : Int) := ⟨x.toNat, by omega⟩
          have hrn : r < n := by omega
          obtain ⟨ho, _⟩ := HM.out.outer hlt
          rw [if_pos (by omega), if_pos rfl] at ho
          obtain ⟨hcl, hfz⟩ := HM.out.cell (show i < i + 1 by omega) hrn
          rw [if_pos rfl] at hcl hfz
          have hst := HM.out.set (show i < i + 1 by omega) hrn true
          rw [if_pos rfl, fillM_succ hx rfl] at hst
          have hB2 := hB.trans hst.2
          have HS := Lib.hid hst.1
          generalize fillM zs i a q i r = bv at hcl
          have hin : inB (r : Int) 0 ((n : Int) - 1) = true := inB_true.2 ⟨x0, x1⟩
          have cw : Calls Tryd.prog 45 #[.int .i64 (r : Int), .int .i64 0, .int .i64 ((n : Int) - 1)] wr fun e w' => e = .returned (.bool true) ∧ wr = w' := by have := within_any (r : Int) 0 ((n : Int) - 1) wr; rwa [hin] at this
          have HW := Lib.hid cw
          clear cw hin hst HM hx hxm hxd hB
          go_wp2_with (fail)
          refine HW.out.mono ?_
          rintro e w9 ⟨rfl, rfl⟩
          clear HW
          go_wp2_with (fail)
          exact ⟨⟨q + 1, by omega, by go_num, HS.out, hB2⟩, by simp [intOf]; omega⟩
        · obtain rfl : q = a.length := by omega
          have hfa : fillM zs i a a.length = R0 zs := fillM_all HZ.out
          rw [hfa] at HM
          go_wp2_with (fail)
          exact ⟨⟨i + 1, _, by omega, by go_num, HM.out, hB⟩, by simp [intOf]; omega⟩
    · obtain rfl : i = n := by omega
      have HW : Hid (loopM i (R0 zs) 0 (i - 0) = waitsF zs) := by show _ = _; rw [waitsF, ← HN.out]; rfl
      go_wp2_with (fail)
      go_loopw [48] (fun x wr => ∃ (m : Nat) (R : Mx), m ≤ i ∧ x = .int .i64 m ∧ Hid (Mat wr w.heap.size w.heap.size i i gs R) ∧ Hid (loopM i R m (i - m) = waitsF zs) ∧ Below w.heap.size w wr) (fun x _ => i - (intOf x).toNat)
      case atStart => exact ⟨0, _, Nat.zero_le _, rfl, HM.out, HW.out, hB⟩
      case round =>
       as_aux_lemma =>
        clear HW HM hB
        obtain ⟨m, R1, hm, rfl, HM, HW, hB⟩ := hrel
        obtain ⟨wp, rfl⟩ : ∃ wp : World, wp = wr := ⟨_, rfl⟩
        by_cases hmn : m < i
        · have HW2 : Hid (loopM i (loopI m R1 0 (i - 0)) (m + 1) (i - (m + 1)) = waitsF zs) := by show _ = _; rw [← HW.out, loopM_step i R1 hmn]; rfl
          clear HW
          go_wp2_with (fail)
          go_loopw [52] (fun x wr => ∃ (j : Nat) (R : Mx), j ≤ i ∧ x = .int .i64 j ∧ Hid (Mat wr w.heap.size w.heap.size i i gs R) ∧ Hid (loopM i (loopI m R j (i - j)) (m + 1) (i - (m + 1)) = waitsF zs) ∧ Below w.heap.size w wr) (fun x _ => i - (intOf x).toNat)
          case atStart => exact ⟨0, R1, Nat.zero_le _, rfl, HM.out, HW2.out, hB⟩
          case round =>
           as_aux_lemma =>
            clear HW2 HM hB
            obtain ⟨j, R, hj, rfl, HM, HW, hB⟩ := hrel
            obtain ⟨wq, rfl⟩ : ∃ wq : World, wq = wr := ⟨_, rfl⟩
            by_cases hin : j < i
            · have HM0 : Hid (Mat wq w.heap.size w.heap.size i i gs (rowMid m j 0 R)) := by show Mat _ _ _ _ _ _ _; rw [rowMid_zero]; exact HM.out
              go_wp2_with (fail)
              go_loopw [56] (fun x wr => ∃ (k : Nat), k ≤ i ∧ x = .int .i64 k ∧ Hid (Mat wr w.heap.size w.heap.size i i gs (rowMid m j k R)) ∧ Below w.heap.size w wr) (fun x _ => i - (intOf x).toNat)
              case atStart => exact ⟨0, Nat.zero_le _, rfl, HM0.out, hB⟩
              case round =>
               as_aux_lemma =>
                clear HM0 HM hB
                obtain ⟨k, hk, rfl, HM, hB⟩ := hrel
                by_cases hkn : k < i
                · obtain ⟨hoj, _⟩ := HM.out.outer hin
                  obtain ⟨hom, _⟩ := HM.out.outer hmn
                  rw [if_pos hin] at hoj
                  rw [if_pos hmn] at hom
                  obtain ⟨ck, fk⟩ := HM.out.cell hin hkn
                  obtain ⟨cm, _⟩ := HM.out.cell hin hmn
                  obtain ⟨cc, _⟩ := HM.out.cell hmn hkn
                  obtain ⟨e1, e2, e3⟩ := rowMid_reads (m := m) (i := j) (k := k) R
                  rw [e3] at ck
                  rw [e1] at cm
                  rw [e2] at cc
                  clear e1 e2 e3
                  cases hA : R j k with
                  | true =>
                    rw [hA] at ck
                    have hst := HM.out.set hin hkn true
                    rw [rowMid_succ R true (by rw [hA]; rfl)] at hst
                    have hB2 := hB.trans hst.2
                    have HS := Lib.hid hst.1
                    clear hst HM hB HC HA HN
                    go_wp2_with (fail)
                    refine wp_region_still_tail 31 (by kernel_rfl) (by kernel_rfl) ?_
                    simp only [List.take_succ_cons, List.take_zero, List.drop_succ_cons, List.drop_zero]
                    with_reducible refine still_at ?_ (fun K hK => ?_)
                    · kernel_rfl
                    go_simp
                    with_reducible refine hK _ ?_
                    clear hK K
                    with_reducible refine still_at ?_ (fun K hK => ?_)
                    · kernel_rfl
                    go_simp
                    with_reducible refine hK _ ?_
                    clear hK K
                    with_reducible refine still_at ?_ (fun K hK => ?_)
                    · kernel_rfl
                    go_simp
                    with_reducible refine hK _ ?_
                    clear hK K
                    with_reducible refine still_at ?_ (fun K hK => ?_)
                    · kernel_rfl
                    go_simp
                    with_reducible refine hK _ ?_
                    clear hK K
                    with_reducible refine still_at ?_ (fun K hK => ?_)
                    · kernel_rfl
                    go_simp
                    with_reducible refine hK _ ?_
                    clear hK K
                    with_reducible refine still_at ?_ (fun K hK => ?_)
                    · kernel_rfl
                    go_simp
                    with_reducible refine hK _ ?_
                    clear hK K
                    with_reducible refine still_at ?_ (fun K hK => ?_)
                    · kernel_rfl
                    go_simp
                    with_reducible refine hK _ ?_
                    clear hK K
                    with_reducible refine still_at ?_ (fun K hK => ?_)
                    · kernel_rfl
                    go_simp
                    with_reducible refine hK _ ?_
                    clear hK K
                    with_reducible refine still_at ?_ (fun K hK => ?_)
                    · kernel_rfl
                    go_simp
                    with_reducible refine hK _ ?_
                    clear hK K
                    with_reducible refine still_at ?_ (fun K hK => ?_)
                    · kernel_rfl
                    go_simp
                    with_reducible refine hK _ ?_
                    clear hK K
                    with_reducible refine still_at ?_ (fun K hK => ?_)
                    · kernel_rfl
                    go_simp
                    with_reducible refine hK _ ?_
                    clear hK K
                    with_reducible refine still_at ?_ (fun K hK => ?_)
                    · kernel_rfl
                    go_simp
                    with_reducible refine hK _ ?_
                    clear hK K
                    with_reducible refine still_at ?_ (fun K hK => ?_)
                    · kernel_rfl
                    go_simp
                    with_reducible refine hK _ ?_
                    clear hK K
                    with_reducible refine still_skip ?_ ?_
                    · kernel_rfl
                    simp only [Act.put, List.setIfInBounds_toArray, List.set_cons_zero, List.set_cons_succ]
                    with_reducible refine still_skip ?_ ?_
                    · kernel_rfl
                    simp only [Act.put, List.setIfInBounds_toArray, List.set_cons_zero, List.set_cons_succ]
                    with_reducible refine still_skip ?_ ?_
                    · kernel_rfl
                    simp only [Act.put, List.setIfInBounds_toArray, List.set_cons_zero, List.set_cons_succ]
                    with_reducible refine still_skip ?_ ?_
                    · kernel_rfl
                    simp only [Act.put, List.setIfInBounds_toArray, List.set_cons_zero, List.set_cons_succ]
                    with_reducible refine still_skip ?_ ?_
                    · kernel_rfl
                    simp only [Act.put, List.setIfInBounds_toArray, List.set_cons_zero, List.set_cons_succ]
                    with_reducible refine still_skip ?_ ?_
                    · kernel_rfl
                    simp only [Act.put, List.setIfInBounds_toArray, List.set_cons_zero, List.set_cons_succ]
                    with_reducible refine still_skip ?_ ?_
                    · kernel_rfl
                    simp only [Act.put, List.setIfInBounds_toArray, List.set_cons_zero, List.set_cons_succ]
                    with_reducible refine still_skip ?_ ?_
                    · kernel_rfl
                    simp only [Act.put, List.setIfInBounds_toArray, List.set_cons_zero, List.set_cons_succ]
                    with_reducible refine still_skip ?_ ?_
                    · kernel_rfl
                    simp only [Act.put, List.setIfInBounds_toArray, List.set_cons_zero, List.set_cons_succ]
                    with_reducible refine still_skip ?_ ?_
                    · kernel_rfl
                    simp only [Act.put, List.setIfInBounds_toArray, List.set_cons_zero, List.set_cons_succ]
                    with_reducible refine still_skip ?_ ?_
                    · kernel_rfl
                    simp only [Act.put, List.setIfInBounds_toArray, List.set_cons_zero, List.set_cons_succ]
                    with_reducible refine still_skip ?_ ?_
                    · kernel_rfl
                    simp only [Act.put, List.setIfInBounds_toArray, List.set_cons_zero, List.set_cons_succ]
                    with_reducible refine still_skip ?_ ?_
                    · kernel_rfl
                    simp only [Act.put, List.setIfInBounds_toArray, List.set_cons_zero, List.set_cons_succ]
                    with_reducible refine still_skip ?_ ?_
                    · kernel_rfl
                    simp only [Act.put, List.setIfInBounds_toArray, List.set_cons_zero, List.set_cons_succ]
                    with_reducible refine still_skip ?_ ?_
                    · kernel_rfl
                    simp only [Act.put, List.setIfInBounds_toArray, List.set_cons_zero, List.set_cons_succ]
                    with_reducible refine still_skip ?_ ?_
                    · kernel_rfl
                    simp only [Act.put, List.setIfInBounds_toArray, List.set_cons_zero, List.set_cons_succ]
                    with_reducible refine still_at ?_ (fun K hK => ?_)
                    · kernel_rfl
                    go_simp
                    with_reducible refine hK _ ?_
                    clear hK K
                    with_reducible refine still_at ?_ (fun K hK => ?_)
                    · kernel_rfl
                    go_simp
                    with_reducible refine hK _ ?_
                    clear hK K
                    refine wpStill_nil ?_
                    go_wp2_with (fail)
                    exact ⟨⟨k + 1, by omega, by go_num, HS.out, hB2.drew⟩, by simp [intOf]; omega⟩
                  | false =>
                    rw [hA] at ck
                    cases hBv : R j m with
                    | false =>
                      rw [hBv] at cm
                      have hst := HM.out.set hin hkn false
                      rw [rowMid_succ R false (by rw [hA, hBv]; rfl)] at hst
                      have hB2 := hB.trans hst.2
                      have HS := Lib.hid hst.1
                      clear hst HM hB HC HA HN
                      go_wp2_with (fail)
                      refine wp_region_still_tail 31 (by kernel_rfl) (by kernel_rfl) ?_
                      simp only [List.take_succ_cons, List.take_zero, List.drop_succ_cons, List.drop_zero]
                      with_reducible refine still_at ?_ (fun K hK => ?_)
                      · kernel_rfl
                      go_simp
                      with_reducible refine hK _ ?_
                      clear hK K
                      with_reducible refine still_at ?_ (fun K hK => ?_)
                      · kernel_rfl
                      go_simp
                      with_reducible refine hK _ ?_
                      clear hK K
                      with_reducible refine still_at ?_ (fun K hK => ?_)
                      · kernel_rfl
                      go_simp
                      with_reducible refine hK _ ?_
                      clear hK K
                      with_reducible refine still_at ?_ (fun K hK => ?_)
                      · kernel_rfl
                      go_simp
                      with_reducible refine hK _ ?_
                      clear hK K
                      with_reducible refine still_at ?_ (fun K hK => ?_)
                      · kernel_rfl
                      go_simp
                      with_reducible refine hK _ ?_
                      clear hK K
                      with_reducible refine still_at ?_ (fun K hK => ?_)
                      · kernel_rfl
                      go_simp
                      with_reducible refine hK _ ?_
                      clear hK K
                      with_reducible refine still_at ?_ (fun K hK => ?_)
                      · kernel_rfl
                      go_simp
                      with_reducible refine hK _ ?_
                      clear hK K
                      with_reducible refine still_at ?_ (fun K hK => ?_)
                      · kernel_rfl
                      go_simp
                      with_reducible refine hK _ ?_
                      clear hK K
                      with_reducible refine still_at ?_ (fun K hK => ?_)
                      · kernel_rfl
                      go_simp
                      with_reducible refine hK _ ?_
                      clear hK K
                      with_reducible refine still_at ?_ (fun K hK => ?_)
                      · kernel_rfl
                      go_simp
                      with_reducible refine hK _ ?_
                      clear hK K
                      with_reducible refine still_at ?_ (fun K hK => ?_)
                      · kernel_rfl
                      go_simp
                      with_reducible refine hK _ ?_
                      clear hK K
                      with_reducible refine still_at ?_ (fun K hK => ?_)
                      · kernel_rfl
                      go_simp
                      with_reducible refine hK _ ?_
                      clear hK K
                      with_reducible refine still_at ?_ (fun K hK => ?_)
                      · kernel_rfl
                      go_simp
                      with_reducible refine hK _ ?_
                      clear hK K
                      with_reducible refine still_at ?_ (fun K hK => ?_)
                      · kernel_rfl
                      go_simp
                      with_reducible refine hK _ ?_
                      clear hK K
                      with_reducible refine still_at ?_ (fun K hK => ?_)
                      · kernel_rfl
                      go_simp
                      with_reducible refine hK _ ?_
                      clear hK K
                      with_reducible refine still_at ?_ (fun K hK => ?_)
                      · kernel_rfl
                      go_simp
                      with_reducible refine hK _ ?_
                      clear hK K
                      with_reducible refine still_at ?_ (fun K hK => ?_)
                      · kernel_rfl
                      go_simp
                      with_reducible refine hK _ ?_
                      clear hK K
                      with_reducible refine still_at ?_ (fun K hK => ?_)
                      · kernel_rfl
                      go_simp
                      with_reducible refine hK _ ?_
                      clear hK K
                      with_reducible refine still_at ?_ (fun K hK => ?_)
                      · kernel_rfl
                      go_simp
                      with_reducible refine hK _ ?_
                      clear hK K
                      with_reducible refine still_at ?_ (fun K hK => ?_)
                      · kernel_rfl
                      go_simp
                      with_reducible refine hK _ ?_
                      clear hK K
                      with_reducible refine still_at ?_ (fun K hK => ?_)
                      · kernel_rfl
                      go_simp
                      with_reducible refine hK _ ?_
                      clear hK K
                      with_reducible refine still_skip ?_ ?_
                      · kernel_rfl
                      simp only [Act.put, List.setIfInBounds_toArray, List.set_cons_zero, List.set_cons_succ]
                      with_reducible refine still_skip ?_ ?_
                      · kernel_rfl
                      simp only [Act.put, List.setIfInBounds_toArray, List.set_cons_zero, List.set_cons_succ]
                      with_reducible refine still_skip ?_ ?_
                      · kernel_rfl
                      simp only [Act.put, List.setIfInBounds_toArray, List.set_cons_zero, List.set_cons_succ]
                      with_reducible refine still_skip ?_ ?_
                      · kernel_rfl
                      simp only [Act.put, List.setIfInBounds_toArray, List.set_cons_zero, List.set_cons_succ]
                      with_reducible refine still_skip ?_ ?_
                      · kernel_rfl
                      simp only [Act.put, List.setIfInBounds_toArray, List.set_cons_zero, List.set_cons_succ]
                      with_reducible refine still_skip ?_ ?_
                      · kernel_rfl
                      simp only [Act.put, List.setIfInBounds_toArray, List.set_cons_zero, List.set_cons_succ]
                      with_reducible refine still_skip ?_ ?_
                      · kernel_rfl
                      simp only [Act.put, List.setIfInBounds_toArray, List.set_cons_zero, List.set_cons_succ]
                      with_reducible refine still_at ?_ (fun K hK => ?_)
                      · kernel_rfl
                      go_simp
                      with_reducible refine hK _ ?_
                      clear hK K
                      with_reducible refine still_at ?_ (fun K hK => ?_)
                      · kernel_rfl
                      go_simp
                      with_reducible refine hK _ ?_
                      clear hK K
                      with_reducible refine still_at ?_ (fun K hK => ?_)
                      · kernel_rfl
                      go_simp
                      with_reducible refine hK _ ?_
                      clear hK K
                      refine wpStill_nil ?_
                      go_wp2_with (fail)
                      exact ⟨⟨k + 1, by omega, by go_num, HS.out, hB2.drew⟩, by simp [intOf]; omega⟩
                    | true =>
                      rw [hBv] at cm
                      have hst := HM.out.set hin hkn (R m k)
                      rw [rowMid_succ R (R m k) (by rw [hA, hBv]; rfl)] at hst
                      have hB2 := hB.trans hst.2
                      have HS := Lib.hid hst.1
                      clear hst HM hB HC HA HN
                      go_wp2_with (fail)
                      refine wp_region_still_tail 31 (by kernel_rfl) (by kernel_rfl) ?_
                      simp only [List.take_succ_cons, List.take_zero, List.drop_succ_cons, List.drop_zero]
                      with_reducible refine still_at ?_ (fun K hK => ?_)
                      · kernel_rfl
                      go_simp
                      with_reducible refine hK _ ?_
                      clear hK K
                      with_reducible refine still_at ?_ (fun K hK => ?_)
                      · kernel_rfl
                      go_simp
                      with_reducible refine hK _ ?_
                      clear hK K
                      with_reducible refine still_at ?_ (fun K hK => ?_)
                      · kernel_rfl
                      go_simp
                      with_reducible refine hK _ ?_
                      clear hK K
                      with_reducible refine still_at ?_ (fun K hK => ?_)
                      · kernel_rfl
                      go_simp
                      with_reducible refine hK _ ?_
                      clear hK K
                      with_reducible refine still_at ?_ (fun K hK => ?_)
                      · kernel_rfl
                      go_simp
                      with_reducible refine hK _ ?_
                      clear hK K
                      with_reducible refine still_at ?_ (fun K hK => ?_)
                      · kernel_rfl
                      go_simp
                      with_reducible refine hK _ ?_
                      clear hK K
                      with_reducible refine still_at ?_ (fun K hK => ?_)
                      · kernel_rfl
                      go_simp
                      with_reducible refine hK _ ?_
                      clear hK K
                      with_reducible refine still_at ?_ (fun K hK => ?_)
                      · kernel_rfl
                      go_simp
                      with_reducible refine hK _ ?_
                      clear hK K
                      with_reducible refine still_at ?_ (fun K hK => ?_)
                      · kernel_rfl
                      go_simp
                      with_reducible refine hK _ ?_
                      clear hK K
                      with_reducible refine still_at ?_ (fun K hK => ?_)
                      · kernel_rfl
                      go_simp
                      with_reducible refine hK _ ?_
                      clear hK K
                      with_reducible refine still_at ?_ (fun K hK => ?_)
                      · kernel_rfl
                      go_simp
                      with_reducible refine hK _ ?_
                      clear hK K
                      with_reducible refine still_at ?_ (fun K hK => ?_)
                      · kernel_rfl
                      go_simp
                      with_reducible refine hK _ ?_
                      clear hK K
                      with_reducible refine still_at ?_ (fun K hK => ?_)
                      · kernel_rfl
                      go_simp
                      with_reducible refine hK _ ?_
                      clear hK K
                      with_reducible refine still_at ?_ (fun K hK => ?_)
                      · kernel_rfl
                      go_simp
                      with_reducible refine hK _ ?_
                      clear hK K
                      with_reducible refine still_at ?_ (fun K hK => ?_)
                      · kernel_rfl
                      go_simp
                      with_reducible refine hK _ ?_
                      clear hK K
                      with_reducible refine still_at ?_ (fun K hK => ?_)
                      · kernel_rfl
                      go_simp
                      with_reducible refine hK _ ?_
                      clear hK K
                      with_reducible refine still_at ?_ (fun K hK => ?_)
                      · kernel_rfl
                      go_simp
                      with_reducible refine hK _ ?_
                      clear hK K
                      with_reducible refine still_at ?_ (fun K hK => ?_)
                      · kernel_rfl
                      go_simp
                      with_reducible refine hK _ ?_
                      clear hK K
                      with_reducible refine still_at ?_ (fun K hK => ?_)
                      · kernel_rfl
                      go_simp
                      with_reducible refine hK _ ?_
                      clear hK K
                      with_reducible refine still_at ?_ (fun K hK => ?_)
                      · kernel_rfl
                      go_simp
                      with_reducible refine hK _ ?_
                      clear hK K
                      with_reducible refine still_at ?_ (fun K hK => ?_)
                      · kernel_rfl
                      go_simp
                      with_reducible refine hK _ ?_
                      clear hK K
                      with_reducible refine still_at ?_ (fun K hK => ?_)
                      · kernel_rfl
                      go_simp
                      with_reducible refine hK _ ?_
                      clear hK K
                      with_reducible refine still_at ?_ (fun K hK => ?_)
                      · kernel_rfl
                      go_simp
                      with_reducible refine hK _ ?_
                      clear hK K
                      with_reducible refine still_at ?_ (fun K hK => ?_)
                      · kernel_rfl
                      go_simp
                      with_reducible refine hK _ ?_
                      clear hK K
                      with_reducible refine still_at ?_ (fun K hK => ?_)
                      · kernel_rfl
                      go_simp
                      with_reducible refine hK _ ?_
                      clear hK K
                      with_reducible refine still_at ?_ (fun K hK => ?_)
                      · kernel_rfl
                      go_simp
                      with_reducible refine hK _ ?_
                      clear hK K
                      with_reducible refine still_at ?_ (fun K hK => ?_)
                      · kernel_rfl
                      go_simp
                      with_reducible refine hK _ ?_
                      clear hK K
                      with_reducible refine still_at ?_ (fun K hK => ?_)
                      · kernel_rfl
                      go_simp
                      with_reducible refine hK _ ?_
                      clear hK K
                      with_reducible refine still_at ?_ (fun K hK => ?_)
                      · kernel_rfl
                      go_simp
                      with_reducible refine hK _ ?_
                      clear hK K
                      with_reducible refine still_at ?_ (fun K hK => ?_)
                      · kernel_rfl
                      go_simp
                      with_reducible refine hK _ ?_
                      clear hK K
                      with_reducible refine still_at ?_ (fun K hK => ?_)
                      · kernel_rfl
                      go_simp
                      with_reducible refine hK _ ?_
                      clear hK K
                      refine wpStill_nil ?_
                      go_wp2_with (fail)
                      exact ⟨⟨k + 1, by omega, by go_num, HS.out, hB2.drew⟩, by simp [intOf]; omega⟩
                · obtain rfl : k = i := by omega
                  have HM2 := Lib.hid (HM.out.congr (R' := rowStep m j R) fun a b _ hb => rowMid_full R hb)
                  have HW2 : Hid (loopM k (loopI m (rowStep m j R) (j + 1) (k - (j + 1))) (m + 1) (k - (m + 1)) = waitsF zs) := by show _ = _; rw [← HW.out, loopI_step m R hin]
                  clear HM HW
                  go_wp2_with (fail)
                  exact ⟨⟨j + 1, _, by omega, by go_num, HM2.out, HW2.out, hB⟩, by simp [intOf]; omega⟩
            · have HW2 : Hid (loopM i R (m + 1) (i - (m + 1)) = waitsF zs) := by show _ = _; rw [← HW.out, loopI_end m R (by omega)]
              clear HW
              go_wp2_with (fail)
              exact ⟨⟨m + 1, R, by omega, by go_num, HM.out, HW2.out, hB⟩, by simp [intOf]; omega⟩
        · have hfin := HW.out
          rw [loopM_end i R1 (by omega)] at hfin
          subst hfin
          clear HW
          go_wp2_with (fail)
          go_ret
          exact ⟨_, gs, rfl, HM.out, hB⟩
end Go.Proofs.YtkkcglncjdoacaaDoor
