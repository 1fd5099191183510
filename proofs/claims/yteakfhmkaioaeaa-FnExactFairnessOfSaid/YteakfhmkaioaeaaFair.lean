/- The walks of FairnessOf: the difference of the greatest and the least share. -/
import Derived.Test.YteakfhmkaioaeaaStrict
import Derived.Test.YteakfhmkaioaeaaInts
namespace Go.Proofs.Yteakfhmkaioaeaa
open Go.ChangeShapes Go.WideShapes Go.ChangeAt Go.RowKit Go.Joins
set_option linter.unusedSimpArgs false
set_option linter.unusedVariables false

def hiF (zs : List Int) (a : Int) : Int := zs.foldl max a
def loF (zs : List Int) (a : Int) : Int := zs.foldl min a
theorem hiF_cons (x : Int) (r : List Int) (a : Int) : hiF (x :: r) a = hiF r (max a x) := rfl
theorem loF_cons (x : Int) (r : List Int) (a : Int) : loF (x :: r) a = loF r (min a x) := rfl
def fairB (zs : List Int) : Bool := decide (0 < zs.length) && allB zs 0 1000000
def fairnessOf (zs : List Int) : Int := if fairB zs = true then hiF zs (zs.getD 0 0) - loF zs (zs.getD 0 0) else -1
theorem fairB_no {zs : List Int} (h : allB zs 0 1000000 = false) : fairnessOf zs = -1 := if_neg (by simp [fairB, h])
theorem fairB_yes {zs : List Int} (h0 : 0 < zs.length) (h : allB zs 0 1000000 = true) : fairnessOf zs = hiF zs (zs.getD 0 0) - loF zs (zs.getD 0 0) := if_pos (by simp [fairB, h, h0])
theorem specFairnessOf_any (zs : List Int) (v : Value) (w : World) (h : RdI w v zs) : Calls Try.prog 23 #[v] w fun e w' => e = .returned (.int .i64 (fairnessOf zs)) ∧ Dr w w' := by
  obtain ⟨ad, cap, bl, off, hv, hcap, hmax, had, hc⟩ := h.open
  subst hv
  have HC := Lib.hid hc
  clear h hc
  by_cases h0 : 0 < zs.length
  · obtain rfl := had h0
    obtain ⟨z, hcz, HZ⟩ : ∃ z, w.cell? ⟨bl, off, none⟩ = some (.int .i64 z) ∧ Hid (z = zs.getD 0 0) := ⟨_, HC.out 0 h0, rfl⟩
    go_enter Try.func23, Try.ntmps23
    go_wp2
    go_loopw [3, 4, 5] (fun b c i wr => ∃ (k : Nat) (q r : Int), k ≤ zs.length ∧ i = .int .i64 k ∧ b = .int .i64 q ∧ c = .int .i64 r ∧ Dr w wr ∧ (0 < k → 0 ≤ q ∧ q ≤ 1000000 ∧ 0 ≤ r ∧ r ≤ 1000000) ∧ (k = 0 → q = z ∧ r = z) ∧ Hid (allB (zs.drop k) 0 1000000 = allB zs 0 1000000 ∧ hiF (zs.drop k) r = hiF zs z ∧ loF (zs.drop k) q = loF zs z)) (fun _ _ i _ => zs.length - (intOf i).toNat)
    case atStart => exact ⟨0, z, z, by omega, rfl, rfl, rfl, Dr.refl _, by omega, fun _ => ⟨rfl, rfl⟩, rfl, rfl, rfl⟩
    case round =>
      obtain ⟨k, q, r, hk, rfl, rfl, rfl, hD, hb, hz, H⟩ := hrel
      have HB := Lib.hid hb
      have HZ0 := Lib.hid hz
      clear hb hz
      by_cases hlt : k < zs.length
      · obtain ⟨x, hck, HX⟩ : ∃ x, wr.cell? ⟨bl, off + k, none⟩ = some (.int .i64 x) ∧ Hid (zs.drop k = x :: zs.drop (k + 1) ∧ x = zs.getD k 0) := ⟨_, hD.cell (HC.out k hlt), drop_one hlt, rfl⟩
        by_cases hx : inB x 0 1000000 = true
        · obtain ⟨x0, x1⟩ := inB_true.1 hx
          go_wp2_with (go_at_call 48; refine (l01In_any _ _ _ _).mono ?_; rintro e w' ⟨rfl, rfl⟩)
          have hqr : 0 ≤ min q x ∧ min q x ≤ 1000000 ∧ 0 ≤ max r x ∧ max r x ≤ 1000000 := by
            rcases Nat.eq_zero_or_pos k with hk0 | hk0
            · obtain ⟨e1, e2⟩ := HZ0.out hk0
              have e3 : x = z := by rw [HZ.out, HX.out.2, hk0]
              omega
            · have := HB.out hk0
              omega
          refine ⟨⟨k + 1, _, _, by omega, by go_num, rfl, rfl, hD, fun _ => ?_, by omega, ?_⟩, by simp [intOf]; omega⟩
          · (try simp only [ite_max, ite_min, ite_max', ite_min']); exact hqr
          · show _ ∧ _ ∧ _
            (try simp only [ite_max, ite_min, ite_max', ite_min'])
            obtain ⟨H1, H2, H3⟩ := H.out
            rw [HX.out.1] at H1 H2 H3
            rw [allB_cons, hx] at H1
            exact ⟨H1, H2, H3⟩
        · have hx' : inB x 0 1000000 = false := by simpa using hx
          clear hx
          go_wp2_with (go_at_call 48; refine (l01In_any _ _ _ _).mono ?_; rintro e w' ⟨rfl, rfl⟩)
          go_ret
          exact ⟨ret_int (by rw [fairB_no (by rw [← H.out.1, HX.out.1, allB_cons, hx']; rfl)]), hD⟩
      · have hb := HB.out (by omega)
        obtain ⟨c1, c2, c3, c4⟩ := hb
        go_wp2
        go_ret
        obtain rfl : k = zs.length := by omega
        obtain ⟨H1, H2, H3⟩ := H.out
        rw [List.drop_length] at H1 H2 H3
        exact ⟨ret_int (by rw [fairB_yes h0 H1.symm, ← HZ.out, ← H2, ← H3]; rfl), hD⟩
  · have hp : fairnessOf zs = -1 := if_neg (by simp [fairB]; omega)
    rw [hp]
    clear hp
    go_enter Try.func23, Try.ntmps23
    go_wp2
    go_ret
    exact ⟨rfl, Dr.refl _⟩
theorem implFairnessOf_any (zs : List Int) (v : Value) (w : World) (h : RdI w v zs) : Calls Try.prog 24 #[v] w fun e w' => e = .returned (.int .i64 (fairnessOf zs)) ∧ Dr w w' := by
  have HR := Lib.hid h
  obtain ⟨ad, cap, bl, off, hv, hcap, hmax, had, hc⟩ := h.open
  subst hv
  have HC := Lib.hid hc
  clear h hc
  by_cases hg : fairB zs = true
  · obtain ⟨h0, hall⟩ : 0 < zs.length ∧ allB zs 0 1000000 = true := by simpa [fairB] using hg
    have HM := Lib.hid (allB_mem hall)
    rw [fairB_yes h0 hall]
    clear hg
    obtain rfl := had h0
    obtain ⟨z, hcz, hz1, HZ⟩ : ∃ z, w.cell? ⟨bl, off, none⟩ = some (.int .i64 z) ∧ (0 ≤ z ∧ z ≤ 1000000) ∧ Hid (z = zs.getD 0 0) := ⟨_, HC.out 0 h0, HM.out _ (by rw [getD_lt h0]; exact List.getElem_mem h0), rfl⟩
    obtain ⟨z0, z1⟩ := hz1
    rw [← HZ.out]
    have q1 : (0 : Int) < (zs.length : Int) := by omega
    have q2 : ((zs.length : Int) == 0) = false := beq_eq_false_iff_ne.2 (by omega)
    go_enter Try.func24, Try.ntmps24
    go_wp2_with (go_at_call 51; refine (allWithin_any zs _ _ _ _ HR.out).mono ?_; rintro e w' ⟨rfl, rfl⟩)
    go_quiet (fail)
    go_wp2
    go_loopw [3, 4, 23] (fun b c i wr => ∃ (k : Nat) (q r : Int), k ≤ zs.length ∧ i = .int .i64 k ∧ b = .int .i64 q ∧ c = .int .i64 r ∧ Dr w wr ∧ 0 ≤ q ∧ q ≤ 1000000 ∧ 0 ≤ r ∧ r ≤ 1000000 ∧ Hid (hiF (zs.drop k) r = hiF zs z ∧ loF (zs.drop k) q = loF zs z)) (fun _ _ i _ => zs.length - (intOf i).toNat)
    case atStart => exact ⟨0, z, z, by omega, rfl, rfl, rfl, (Dr.refl _).next _, z0, z1, z0, z1, rfl, rfl⟩
    case round =>
      obtain ⟨k, q, r, hk, rfl, rfl, rfl, hD, q0, q1, r0, r1, H⟩ := hrel
      by_cases hlt : k < zs.length
      · obtain ⟨x, hck, hx, HX⟩ : ∃ x, wr.cell? ⟨bl, off + k, none⟩ = some (.int .i64 x) ∧ (0 ≤ x ∧ x ≤ 1000000) ∧ Hid (zs.drop k = x :: zs.drop (k + 1)) := ⟨_, hD.cell (HC.out k hlt), HM.out _ (by rw [getD_lt hlt]; exact List.getElem_mem hlt), drop_one hlt⟩
        obtain ⟨x0, x1⟩ := hx
        go_wp2
        refine ⟨⟨k + 1, _, _, by omega, by go_num, rfl, rfl, hD, ?_, ?_, ?_, ?_, ?_⟩, by simp [intOf]; omega⟩
        · (try simp only [ite_max, ite_min, ite_max', ite_min']); omega
        · (try simp only [ite_max, ite_min, ite_max', ite_min']); omega
        · (try simp only [ite_max, ite_min, ite_max', ite_min']); omega
        · (try simp only [ite_max, ite_min, ite_max', ite_min']); omega
        · show _ ∧ _
          (try simp only [ite_max, ite_min, ite_max', ite_min'])
          obtain ⟨H2, H3⟩ := H.out
          rw [HX.out] at H2 H3
          exact ⟨H2, H3⟩
      · go_wp2
        go_ret
        obtain rfl : k = zs.length := by omega
        obtain ⟨H2, H3⟩ := H.out
        rw [List.drop_length] at H2 H3
        exact ⟨ret_int (by rw [← H2, ← H3]; rfl), hD⟩
  · have hp : fairnessOf zs = -1 := if_neg hg
    rw [hp]
    clear hp
    have hg' : ¬ (0 < zs.length ∧ allB zs 0 1000000 = true) := by simpa [fairB] using hg
    clear hg
    go_enter Try.func24, Try.ntmps24
    go_wp2_with (go_at_call 51; refine (allWithin_any zs _ _ _ _ HR.out).mono ?_; rintro e w' ⟨rfl, rfl⟩)
    all_goals first | (go_ret; exact ⟨rfl, Dr.refl _⟩) | (exfalso; simp_all; done) | (exfalso; simp_all; omega)
theorem walkFnExactFairnessOf (zs : List Int) (vzs : Value) (w : World) (hzs : RdI w vzs zs) : Calls Try.prog 5 #[vzs] w fun e w' => e = .returned (.bool true) ∧ Below w.heap.size w w' := by
  obtain ⟨azs, capzs, rfl⟩ := hzs.shape
  by_cases hlzs : zs.length ≤ 1048576
  · skip
    have hB := Below.refl w.heap.size w
    go_enter Try.func5, Try.ntmps5
    go_wp2_with (fail)
    refine (toIntS_any zs hlzs _ _ (hzs.below hB)).mono ?_
    rintro e w1 ⟨ut0, rfl, ot0, hb⟩
    have bt0 := hB.size
    replace hB := bvia hB hb
    clear hb
    go_wp2_with (fail)
    refine (specFairnessOf_any zs  _ _ ot0.rd).mono ?_
    rintro e w2 ⟨rfl, hd⟩
    have hb := hd.below; clear hd
    replace ot0 := ot0.below hb
    replace hB := bvia hB hb
    clear hb
    clear ot0
    go_wp2_with (fail)
    refine (toIntS_any zs hlzs _ _ (hzs.below hB)).mono ?_
    rintro e w3 ⟨ux0, rfl, ox0, hb⟩
    have bx0 := hB.size
    replace hB := bvia hB hb
    clear hb
    go_wp2_with (fail)
    refine (implFairnessOf_any zs  _ _ ox0.rd).mono ?_
    rintro e w4 ⟨rfl, hd⟩
    have hb := hd.below; clear hd
    replace ox0 := ox0.below hb
    replace hB := bvia hB hb
    clear hb
    go_wp2_with (fail)
    refine (toIntS_any zs hlzs _ _ (hzs.below hB)).mono ?_
    rintro e w5 ⟨uy0, rfl, oy0, hb⟩
    have dx0_y0 := ox0.dis oy0 (Nat.le_refl _)
    have dy0_x0 := ox0.dis' oy0 (Nat.le_refl _)
    have by0 := hB.size
    replace ox0 := ox0.below hb
    replace hB := bvia hB hb
    clear hb
    go_wp2_with (fail)
    refine (eqIntS_any zs _ _ _ ox0.rd oy0.rd).mono ?_
    rintro e w6 ⟨rfl, hd⟩
    have hb := hd.below; clear hd
    replace ox0 := ox0.below hb
    replace oy0 := oy0.below hb
    replace hB := bvia hB hb
    clear hb
    clear oy0
    go_wp2_with (fail)
    go_returns
    exact ⟨rfl, hB⟩
  · go_enter Try.func5, Try.ntmps5
    go_wp2_with (fail)
    go_returns
    exact ⟨rfl, Below.refl _ _⟩
end Go.Proofs.Yteakfhmkaioaeaa
