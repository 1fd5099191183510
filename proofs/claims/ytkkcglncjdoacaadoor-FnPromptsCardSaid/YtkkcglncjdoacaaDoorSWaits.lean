/- The walk of l11Waits: which cue waits for which, as bits. -/
import Derived.Test.YtkkcglncjdoacaaDoorBits
import Derived.Test.YtkkcglncjdoacaaDoorWaits
namespace Go.Proofs.YtkkcglncjdoacaaDoor
open Go.ChangeShapes Go.WideShapes Go.ChangeAt Go.RowKit Go.Joins
set_option maxRecDepth 20000
set_option linter.unusedSimpArgs false
set_option linter.unusedVariables false

/-- The table while the rows before i are filled, and of row i the first j elements. -/
def fillS (zs : List CueV) (i : Nat) (a : List Int) (j : Nat) : Mx := fun r k => if r < i then R0 zs r k else if r = i then (a.take j).any (· == (k : Int)) else false
theorem fillS_succ {zs : List CueV} {i : Nat} {a : List Int} {j q : Nat} {x : Int} (hj : a[j]? = some x) (hx : x = (q : Int)) :
    (fun r k => if r = i ∧ k = q then true else fillS zs i a j r k) = fillS zs i a (j + 1) := by
  have hl := (List.getElem?_eq_some_iff.1 hj).1
  have ht : a.take (j + 1) = a.take j ++ [x] := by rw [List.take_succ_eq_append_getElem hl]; simp [(List.getElem?_eq_some_iff.1 hj).2]
  funext r k
  simp only [fillS, ht, List.any_append, List.any_cons, List.any_nil, Bool.or_false]
  by_cases hr : r = i
  · subst hr
    by_cases hk : k = q
    · subst hk; simp [hx]
    · have : (x == (k : Int)) = false := beq_eq_false_iff_ne.2 (by omega)
      simp [hk, this]
  · simp [hr]
theorem fillS_all {zs : List CueV} {i : Nat} {z : CueV} (hz : zs[i]? = some z) : fillS zs i z.2.1 z.2.1.length = fillS zs (i + 1) [] 0 := by
  funext r k
  simp only [fillS, List.take_length, List.take_nil, List.any_nil]
  by_cases hr : r = i
  · subst hr; simp [R0, hz]
  · by_cases hlt : r < i
    · simp [hlt, show r < i + 1 by omega]
    · simp [hlt, hr, show ¬ r < i + 1 by omega]
theorem fillS_zero (zs : List CueV) (i : Nat) (a : List Int) : fillS zs i [] 0 = fillS zs i a 0 := by
  funext r k
  simp [fillS]
theorem mapR_getD {n : Nat} (f : Nat → Int) {q : Nat} (h : q < n) : (mapR n f).getD q 0 = f q := by rw [List.getD_eq_getElem?_getD, mapR_get f h]; rfl
theorem mapR_setI {n : Nat} (X : Nat → Nat) (q v : Nat) : (mapR n fun i => (X i : Int)).set q (v : Int) = mapR n fun i => ((if i = q then v else X i : Nat) : Int) := by
  rw [mapR_set]
  exact mapR_congr fun j _ => by split <;> rfl
set_option maxHeartbeats 3000000 in
theorem specWaits_any (zs : List CueV) (hn : zs.length ≤ 12) (hA : ∀ z ∈ zs, ∀ x ∈ z.2.1, 0 ≤ x ∧ x ≤ (zs.length : Int) - 1) (v : Value) (w : World) (h : RdCue w v zs) :
    Calls Tryd.prog 70 #[v] w fun e w' => e = .returned (.slice (some ⟨w.heap.size, 0, none⟩) zs.length zs.length) ∧ (∃ X : Nat → Nat, OwI w' w.heap.size (.slice (some ⟨w.heap.size, 0, none⟩) zs.length zs.length) (mapR zs.length fun i => (X i : Int)) ∧ RowsB zs.length X (waitsF zs)) ∧ Below w.heap.size w w' := by
  obtain ⟨ad, cap, bl, off, rfl, hcap, hmax, had, hc⟩ := h
  have HC := Lib.hid hc
  have HA := Lib.hid hA
  clear hc hA
  obtain ⟨n, hnn⟩ : ∃ n, n = zs.length := ⟨_, rfl⟩
  rw [← hnn] at hn hcap had HA ⊢
  have HN := Lib.hid hnn
  have hmk := run_make_row' (P := Tryd.prog) 22 3 (.int .i64 0) 8 underInts infoInt rfl .i64 .i64 n (by omega) (by omega)
  have HO : Hid (∃ X : Nat → Nat, OwI (w.alloc (.cells (madeCells #[.int .i64 0] n) 3)) w.heap.size (.slice (some ⟨w.heap.size, 0, none⟩) n n) (mapR n fun i => (X i : Int)) ∧ RowsB n X (fillS zs 0 [] 0)) := by
    refine ⟨fun _ => 0, ?_, fun i hi => ⟨by show (0 : Nat) < 4096; omega, fun k => by simp [fillS]⟩⟩
    have h := OwI.made w n (by omega)
    have e : List.replicate n (0 : Int) = mapR n fun i => (((fun _ => 0 : Nat → Nat) i : Nat) : Int) := by
      apply List.ext_getElem?
      intro q
      by_cases hq : q < n
      · rw [mapR_get _ hq]; simp [hq]
      · rw [List.getElem?_eq_none (by simp; omega), List.getElem?_eq_none (by rw [mapR_length]; omega)]
    rw [e] at h
    exact h
  clear hnn
  go_enter Tryd.func70, Tryd.ntmps70
  go_wp2
  go_loopw [5] (fun i wr => ∃ k : Nat, k ≤ n ∧ i = .int .i64 k ∧ Hid (∃ X : Nat → Nat, OwI wr w.heap.size (.slice (some ⟨w.heap.size, 0, none⟩) n n) (mapR n fun i => (X i : Int)) ∧ RowsB n X (fillS zs k [] 0)) ∧ Below w.heap.size w wr) (fun i _ => n - (intOf i).toNat)
  case atStart => exact ⟨0, Nat.zero_le _, rfl, HO.out, below_alloc1 _ _⟩
  case round =>
   as_aux_lemma =>
    clear HO hmk
    obtain ⟨i, hi, rfl, HI, hB⟩ := hrel
    by_cases hlt : i < n
    · obtain rfl := had (by omega)
      obtain ⟨⟨t, a, p⟩, hz, hzm, _, _⟩ := getC (show i < zs.length by have := HN.out; omega)
      obtain ⟨u1, u2, k0, k1, k2, r1, r2⟩ := HC.out i _ hz
      dsimp only at k0 r1 r2
      obtain ⟨b1, d1, bl1, off1, rfl, hc1, hm1, had1, hcc⟩ := r1.open
      have hAx := HA.out _ hzm
      dsimp only at hAx
      have HAX := Lib.hid hAx
      have HZ := Lib.hid hz
      have HCC := Lib.hid hcc
      have HK1 := Lib.hid k1
      clear hz hzm hAx hcc r1 r2 k0 k1 k2
      rw [fillS_zero zs i a] at HI
      go_wp2_with (fail)
      go_loopw [6] (fun j wr => ∃ q : Nat, q ≤ a.length ∧ j = .int .i64 q ∧ Hid (∃ X : Nat → Nat, OwI wr w.heap.size (.slice (some ⟨w.heap.size, 0, none⟩) n n) (mapR n fun i => (X i : Int)) ∧ RowsB n X (fillS zs i a q)) ∧ Below w.heap.size w wr) (fun j _ => a.length - (intOf j).toNat)
      case atStart => exact ⟨0, Nat.zero_le _, rfl, HI.out, hB⟩
      case round =>
       as_aux_lemma =>
        clear HI hB
        obtain ⟨q, hq, rfl, HI, hB⟩ := hrel
        have k1 := cell_on hB HK1.out
        by_cases hql : q < a.length
        · obtain rfl := had1 (by omega)
          have hck := cell_on hB (HCC.out q hql)
          obtain ⟨x, hx, hxm, _, _⟩ := getC hql
          have hxd : a.getD q 0 = x := by rw [List.getD_eq_getElem?_getD, hx]; rfl
          rw [hxd] at hck
          obtain ⟨x0, x1⟩ := HAX.out x hxm
          obtain ⟨r, rfl⟩ : ∃ r : Nat, x = (r : Int) := ⟨x.toNat, by omega⟩
          have hrn : r < n := by omega
          obtain ⟨X, ho, hR⟩ := HI.out
          obtain ⟨hcl, hfz⟩ := ho.cell (k := i) (by rw [mapR_length]; exact hlt)
          rw [mapR_getD _ hlt] at hcl
          have hR2 := hR.orBit hn hlt hrn
          rw [fillS_succ hx rfl] at hR2
          have hXi := (hR i hlt).1
          have hpl := pow_lt (show r < 12 by omega)
          have hpw := pow_wrap (show r < 12 by omega)
          obtain ⟨y, hy⟩ : ∃ y : Nat, 2 ^ r = y := ⟨_, rfl⟩
          rw [hy] at hR2 hpl hpw
          clear hy
          have hor := bits_or hXi hpl
          obtain ⟨z, hz⟩ : ∃ z : Nat, X i ||| y = z := ⟨_, rfl⟩
          rw [hz] at hR2 hor
          clear hz
          have hst := ho.set i (z : Int)
          rw [mapR_setI] at hst
          have hpw2 : wrap64 ((2 : Int) ^ r) = (y : Int) := by rw [← IntWalk.i64_left]; exact hpw
          have HS : Hid (∃ X : Nat → Nat, OwI (wr.setCell ⟨w.heap.size, i, none⟩ (.int .i64 (z : Int))) w.heap.size (.slice (some ⟨w.heap.size, 0, none⟩) n n) (mapR n fun i => (X i : Int)) ∧ RowsB n X (fillS zs i a (q + 1))) := ⟨_, hst.1, hR2⟩
          have hB2 : Below w.heap.size w (wr.setCell ⟨w.heap.size, i, none⟩ (.int .i64 (z : Int))) := hB.setCell (Nat.le_refl _) _
          generalize X i = xi at hcl hor
          have cw : Calls Tryd.prog 43 #[.int .i64 (r : Int), .int .i64 0, .int .i64 ((n : Int) - 1)] wr fun e w' => e = .returned (.bool true) ∧ wr = w' := by have := l01In_any (r : Int) 0 ((n : Int) - 1) wr; rwa [inB_true.2 ⟨x0, x1⟩] at this
          have HW := Lib.hid cw
          clear cw hst hR2 hR ho HI hB hx hxm hxd hpw
          go_wp2_with (fail)
          refine HW.out.mono ?_
          rintro e w9 ⟨rfl, rfl⟩
          clear HW
          go_wp2_with (fail)
          refine wp_region_still_tail 17 (by kernel_rfl) (by kernel_rfl) ?_
          simp only [List.take_succ_cons, List.take_zero, List.drop_succ_cons, List.drop_zero]
          with_reducible refine still_at ?_ (fun K hK => ?_)
          · kernel_rfl
          go_simp
          with_reducible refine hK _ ?_
          clear hK K
          with_reducible refine still_at ?_ (fun K hK => ?_)
          · kernel_rfl
          go_simp
          with_reducible refine hK _ ?_
          clear hK K
          with_reducible refine still_at ?_ (fun K hK => ?_)
          · kernel_rfl
          go_simp
          with_reducible refine hK _ ?_
          clear hK K
          with_reducible refine still_at ?_ (fun K hK => ?_)
          · kernel_rfl
          go_simp
          with_reducible refine hK _ ?_
          clear hK K
          with_reducible refine still_at ?_ (fun K hK => ?_)
          · kernel_rfl
          go_simp
          with_reducible refine hK _ ?_
          clear hK K
          with_reducible refine still_at ?_ (fun K hK => ?_)
          · kernel_rfl
          go_simp
          with_reducible refine hK _ ?_
          clear hK K
          with_reducible refine still_at ?_ (fun K hK => ?_)
          · kernel_rfl
          go_simp
          with_reducible refine hK _ ?_
          clear hK K
          with_reducible refine still_at ?_ (fun K hK => ?_)
          · kernel_rfl
          go_simp
          with_reducible refine hK _ ?_
          clear hK K
          with_reducible refine still_at ?_ (fun K hK => ?_)
          · kernel_rfl
          go_simp
          with_reducible refine hK _ ?_
          clear hK K
          with_reducible refine still_at ?_ (fun K hK => ?_)
          · kernel_rfl
          go_simp
          with_reducible refine hK _ ?_
          clear hK K
          with_reducible refine still_at ?_ (fun K hK => ?_)
          · kernel_rfl
          go_simp
          with_reducible refine hK _ ?_
          clear hK K
          with_reducible refine still_at ?_ (fun K hK => ?_)
          · kernel_rfl
          go_simp
          with_reducible refine hK _ ?_
          clear hK K
          with_reducible refine still_at ?_ (fun K hK => ?_)
          · kernel_rfl
          go_simp
          with_reducible refine hK _ ?_
          clear hK K
          with_reducible refine still_at ?_ (fun K hK => ?_)
          · kernel_rfl
          go_simp
          with_reducible refine hK _ ?_
          clear hK K
          with_reducible refine still_at ?_ (fun K hK => ?_)
          · kernel_rfl
          go_simp
          with_reducible refine hK _ ?_
          clear hK K
          with_reducible refine still_at ?_ (fun K hK => ?_)
          · kernel_rfl
          go_simp
          with_reducible refine hK _ ?_
          clear hK K
          with_reducible refine still_at ?_ (fun K hK => ?_)
          · kernel_rfl
          go_simp
          with_reducible refine hK _ ?_
          clear hK K
          refine wpStill_nil ?_
          go_wp2_with (fail)
          exact ⟨⟨q + 1, by omega, by go_num, HS.out, hB2.drew⟩, by simp [intOf]; omega⟩
        · obtain rfl : q = a.length := by omega
          have hfa : fillS zs i a a.length = fillS zs (i + 1) [] 0 := fillS_all HZ.out
          rw [hfa] at HI
          go_wp2_with (fail)
          exact ⟨⟨i + 1, by omega, by go_num, HI.out, hB⟩, by simp [intOf]; omega⟩
    · obtain rfl : i = n := by omega
      have HI2 : Hid (∃ X : Nat → Nat, OwI wr w.heap.size (.slice (some ⟨w.heap.size, 0, none⟩) i i) (mapR i fun i => (X i : Int)) ∧ RowsB i X (R0 zs)) := by
        obtain ⟨X, h1, h2⟩ := HI.out
        exact ⟨X, h1, h2.congr fun a b ha hb => by simp [fillS, ha]⟩
      have HW : Hid (loopM i (R0 zs) 0 (i - 0) = waitsF zs) := by show _ = _; rw [waitsF, ← HN.out]; rfl
      clear HI
      go_wp2_with (fail)
      go_loopw [7] (fun x wr => ∃ (m : Nat) (R : Mx), m ≤ i ∧ x = .int .i64 m ∧ Hid (∃ X : Nat → Nat, OwI wr w.heap.size (.slice (some ⟨w.heap.size, 0, none⟩) i i) (mapR i fun i => (X i : Int)) ∧ RowsB i X R) ∧ Hid (loopM i R m (i - m) = waitsF zs) ∧ Below w.heap.size w wr) (fun x _ => i - (intOf x).toNat)
      case atStart => exact ⟨0, _, Nat.zero_le _, rfl, HI2.out, HW.out, hB⟩
      case round =>
       as_aux_lemma =>
        clear HW HI2 hB
        obtain ⟨m, R1, hm, rfl, HI, HW, hB⟩ := hrel
        by_cases hmn : m < i
        · have HW2 : Hid (loopM i (loopI m R1 0 (i - 0)) (m + 1) (i - (m + 1)) = waitsF zs) := by show _ = _; rw [← HW.out, loopM_step i R1 hmn]; rfl
          clear HW
          go_wp2_with (fail)
          go_loopw [8] (fun x wr => ∃ (j : Nat) (R : Mx), j ≤ i ∧ x = .int .i64 j ∧ Hid (∃ X : Nat → Nat, OwI wr w.heap.size (.slice (some ⟨w.heap.size, 0, none⟩) i i) (mapR i fun i => (X i : Int)) ∧ RowsB i X R) ∧ Hid (loopM i (loopI m R j (i - j)) (m + 1) (i - (m + 1)) = waitsF zs) ∧ Below w.heap.size w wr) (fun x _ => i - (intOf x).toNat)
          case atStart => exact ⟨0, R1, Nat.zero_le _, rfl, HI.out, HW2.out, hB⟩
          case round =>
           as_aux_lemma =>
            clear HW2 HI hB
            obtain ⟨j, R, hj, rfl, HI, HW, hB⟩ := hrel
            by_cases hjn : j < i
            · have HW2 : Hid (loopM i (loopI m (rowStep m j R) (j + 1) (i - (j + 1))) (m + 1) (i - (m + 1)) = waitsF zs) := by show _ = _; rw [← HW.out, loopI_step m R hjn]
              clear HW
              obtain ⟨X, ho, hR⟩ := HI.out
              obtain ⟨hcj, hfj⟩ := ho.cell (k := j) (by rw [mapR_length]; exact hjn)
              obtain ⟨hcm, _⟩ := ho.cell (k := m) (by rw [mapR_length]; exact hmn)
              rw [mapR_getD _ hjn] at hcj
              rw [mapR_getD _ hmn] at hcm
              have hXj := (hR j hjn).1
              have hXm := (hR m hmn).1
              have hbt := bit_test (m := m) hXj
              rw [(hR j hjn).2 m, decide_eq_true hmn, Bool.true_and] at hbt
              cases ht : R j m with
              | true =>
                rw [ht, if_pos rfl] at hbt
                have hor := bits_or hXj hXm
                have hR2 := hR.orRow hmn hjn ht
                obtain ⟨z, hz⟩ : ∃ z : Nat, X j ||| X m = z := ⟨_, rfl⟩
                rw [hz] at hR2 hor
                clear hz
                have hst := ho.set j (z : Int)
                rw [mapR_setI] at hst
                have HS : Hid (∃ X : Nat → Nat, OwI (wr.setCell ⟨w.heap.size, j, none⟩ (.int .i64 (z : Int))) w.heap.size (.slice (some ⟨w.heap.size, 0, none⟩) i i) (mapR i fun i => (X i : Int)) ∧ RowsB i X (rowStep m j R)) := ⟨_, hst.1, hR2⟩
                have hB2 : Below w.heap.size w (wr.setCell ⟨w.heap.size, j, none⟩ (.int .i64 (z : Int))) := hB.setCell (Nat.le_refl _) _
                generalize X j = xj at hcj hor hbt hXj
                generalize X m = xm at hcm hor hXm
                clear hst hR2 hR ho HI hB
                go_wp2_with (fail)
                refine wp_region_still_tail 12 (by kernel_rfl) (by kernel_rfl) ?_
                simp only [List.take_succ_cons, List.take_zero, List.drop_succ_cons, List.drop_zero]
                with_reducible refine still_at ?_ (fun K hK => ?_)
                · kernel_rfl
                go_simp
                with_reducible refine hK _ ?_
                clear hK K
                with_reducible refine still_at ?_ (fun K hK => ?_)
                · kernel_rfl
                go_simp
                with_reducible refine hK _ ?_
                clear hK K
                with_reducible refine still_at ?_ (fun K hK => ?_)
                · kernel_rfl
                go_simp
                with_reducible refine hK _ ?_
                clear hK K
                with_reducible refine still_at ?_ (fun K hK => ?_)
                · kernel_rfl
                go_simp
                with_reducible refine hK _ ?_
                clear hK K
                with_reducible refine still_at ?_ (fun K hK => ?_)
                · kernel_rfl
                go_simp
                with_reducible refine hK _ ?_
                clear hK K
                with_reducible refine still_at ?_ (fun K hK => ?_)
                · kernel_rfl
                go_simp
                with_reducible refine hK _ ?_
                clear hK K
                with_reducible refine still_at ?_ (fun K hK => ?_)
                · kernel_rfl
                go_simp
                with_reducible refine hK _ ?_
                clear hK K
                with_reducible refine still_at ?_ (fun K hK => ?_)
                · kernel_rfl
                go_simp
                with_reducible refine hK _ ?_
                clear hK K
                with_reducible refine still_at ?_ (fun K hK => ?_)
                · kernel_rfl
                go_simp
                with_reducible refine hK _ ?_
                clear hK K
                with_reducible refine still_at ?_ (fun K hK => ?_)
                · kernel_rfl
                go_simp
                with_reducible refine hK _ ?_
                clear hK K
                with_reducible refine still_at ?_ (fun K hK => ?_)
                · kernel_rfl
                go_simp
                with_reducible refine hK _ ?_
                clear hK K
                with_reducible refine still_at ?_ (fun K hK => ?_)
                · kernel_rfl
                go_simp
                with_reducible refine hK _ ?_
                clear hK K
                refine wpStill_nil ?_
                go_wp2_with (fail)
                exact ⟨⟨j + 1, _, by omega, by go_num, HS.out, HW2.out, hB2.drew⟩, by simp [intOf]; omega⟩
              | false =>
                rw [ht, if_neg (by simp)] at hbt
                rw [rowStep_no ht] at HW2
                generalize X j = xj at hcj hbt hXj
                clear hR ho hcm hXm
                go_wp2_with (fail)
                exact ⟨⟨j + 1, R, by omega, by go_num, HI.out, HW2.out, hB⟩, by simp [intOf]; omega⟩
            · have HW2 : Hid (loopM i R (m + 1) (i - (m + 1)) = waitsF zs) := by show _ = _; rw [← HW.out, loopI_end m R (by omega)]
              clear HW
              go_wp2_with (fail)
              exact ⟨⟨m + 1, R, by omega, by go_num, HI.out, HW2.out, hB⟩, by simp [intOf]; omega⟩
        · have hfin := HW.out
          rw [loopM_end i R1 (by omega)] at hfin
          subst hfin
          clear HW
          go_wp2_with (fail)
          go_ret
          exact ⟨rfl, HI.out, hB⟩
end Go.Proofs.YtkkcglncjdoacaaDoor
