/- BodyOk of the program. -/
import Derived.Test.YtfedhjfijcnpdaaDistI
import Derived.Test.YtfedhjfijcnpdaaAll
namespace Go.Proofs.Ytfedhjfijcnpdaa
open Go.ChangeShapes Go.WideShapes Go.ChangeAt Go.RowKit Go.Joins Tr
set_option linter.unusedSimpArgs false
set_option linter.unusedVariables false
set_option maxRecDepth 20000

theorem drop_one {zs : List Int} {k : Nat} (h : k < zs.length) : zs.drop k = zs.getD k 0 :: zs.drop (k + 1) := by rw [getD_lt h]; exact drop_get zs k h
theorem indexOf_any (zs : List Int) (q : Int) (v : Value) (w : World) (h : RdI w v zs) : Calls Try.prog 75 #[v, .int .i64 q] w fun e w' => ∃ x : Int, e = .returned (.int .i64 x) ∧ decide (0 ≤ x) = zs.any (· == q) ∧ w = w' := by
  obtain ⟨ad, cap, bl, off, rfl, hcap, hmax, had, hc⟩ := h.open
  have HC := Lib.hid hc
  clear h hc
  go_enter Try.func75, Try.ntmps75
  go_wp2
  go_loop [9] (fun i => ∃ k : Nat, k ≤ zs.length ∧ i = .int .i64 k ∧ Hid ((zs.drop k).any (· == q) = zs.any (· == q))) (fun i => zs.length - (intOf i).toNat)
  case atStart => exact ⟨0, Nat.zero_le _, rfl, rfl⟩
  case round =>
    obtain ⟨k, hk, rfl, H⟩ := hrel
    by_cases hlt : k < zs.length
    · obtain rfl := had (by omega)
      obtain ⟨x, hck, HX⟩ : ∃ x, w.cell? ⟨bl, off + k, none⟩ = some (.int .i64 x) ∧ Hid (zs.drop k = x :: zs.drop (k + 1)) := ⟨_, HC.out k hlt, drop_one hlt⟩
      by_cases hx : x = q
      · subst hx
        go_wp2
        go_ret
        exact ⟨_, rfl, by rw [← H.out, HX.out]; simp, rfl⟩
      · have hxb : (x == q) = false := beq_eq_false_iff_ne.2 hx
        go_wp2
        exact ⟨⟨k + 1, by omega, by go_num, by show _ = _; rw [← H.out, HX.out, List.any_cons, hxb]; rfl⟩, by simp [intOf]; omega⟩
    · go_wp2
      go_ret
      obtain rfl : k = zs.length := by omega
      exact ⟨_, rfl, by rw [← H.out, List.drop_length]; rfl, rfl⟩
theorem hasUnknown_any (zs : List Int) (v : Value) (w : World) (h : RdI w v zs) : Calls Try.prog 74 #[v] w fun e w' => e = .returned (.bool (zs.any fun x => decide (x = -1))) ∧ w = w' := by
  obtain ⟨a, cap, rfl⟩ := h.shape
  have HI := Lib.hid (indexOf_any zs (-1) _ w h)
  go_enter Try.func74, Try.ntmps74
  go_wp2_with (fail)
  refine HI.out.mono ?_
  rintro e w1 ⟨x, rfl, hx, rfl⟩
  have hx2 : (zs.any fun x => decide (x = -1)) = decide (0 ≤ x) := by rw [hx]; rfl
  have HX := Lib.hid hx2
  clear hx hx2
  go_wp2_with (fail)
  go_ret
  exact ⟨ret_bool (by rw [HX.out]), rfl⟩

set_option maxHeartbeats 1000000 in
theorem implBodyOk_any (J : Int) (zs : List LimbV) (u : Value) (w : World) (h : RdLimb w u zs) :
    Calls Try.prog 67 #[.agg #[.int .i64 J, u]] w fun e w' => e = .returned (.bool (bodyB J zs)) ∧ Below w.heap.size w w' := by
  have HRD := Lib.hid h
  obtain ⟨ad, cap, bl, off, rfl, hcap, hmax, had, hc⟩ := h.openC
  have hb0 := below_alloc1 w (.cells #[.int .i64 J, .slice ad zs.length cap] 26)
  have hx0 := BX.new w J (.slice ad zs.length cap)
  have HC := Lib.hid (hc.below hb0)
  have HR := Lib.hid (HRD.out.below hb0)
  have HS := Lib.hid (And.intro hb0 hx0)
  clear h hc hb0 hx0 HRD
  go_enter Try.func67, Try.ntmps67
  go_wp2_with (fail)
  generalize w.alloc (.cells #[.int .i64 J, .slice ad zs.length cap] 26) = w1 at HS HC HR ⊢
  obtain ⟨hB, hX⟩ := HS.out
  clear HS
  have HIN := Lib.hid (fun n a b w' => within_any n a b w')
  obtain ⟨m0, m1⟩ := id hX
  cases h5 : inB J 1 12 with
  | false =>
    have HE := Lib.hid (show bodyB J zs = false by unfold bodyB; rw [h5]; rfl)
    go_wp2_with (fail)
    refine (HIN.out _ _ _ _).mono ?_
    rw [h5]
    rintro e w2 ⟨rfl, rfl⟩
    go_wp2_with (fail)
    go_ret
    exact ⟨ret_bool HE.out.symm, hB⟩
  | true =>
    have hJ := inB_true.1 h5
    obtain ⟨N, rfl⟩ : ∃ N : Nat, J = N := ⟨J.toNat, by omega⟩
    go_wp2_with (fail)
    refine (HIN.out _ _ _ _).mono ?_
    rw [h5]
    rintro e w2 ⟨rfl, rfl⟩
    clear h5
    have HB1 := Lib.hid hB
    have hB := Below.refl w1.heap.size w1
    by_cases hlen : (zs.length : Int) = (N : Int) - 1
    · go_wp2_with (fail)
      clear m0 m1
      go_loopw [21] (fun i wr => ∃ k : Nat, k ≤ zs.length ∧ i = .int .i64 k ∧ Hid (∀ z ∈ zs.take k, limbI N z = true) ∧ Below w1.heap.size w1 wr) (fun i _ => zs.length - (intOf i).toNat)
      case atStart => exact ⟨0, Nat.zero_le _, rfl, fun z hz => by simp at hz, hB⟩
      case round =>
       focus
        clear hB
        obtain ⟨k, hk, rfl, HK, hB⟩ := hrel
        obtain ⟨m0, m1⟩ := hX.below hB
        by_cases hlt : k < zs.length
        · obtain rfl := had (by omega)
          obtain ⟨⟨a, b, L⟩, hz⟩ : ∃ x, zs[k]? = some x := ⟨_, List.getElem?_eq_getElem hlt⟩
          obtain ⟨c0, c1, c2⟩ := (HC.out.below hB) k _ hz
          dsimp only at c0 c1 c2
          have qk : (k : Int) < (zs.length : Int) := by omega
          have hBa := hB.alloc hB.size (.cells #[.int .i64 a, .int .i64 b, .int .i64 L] 80)
          obtain ⟨n0, n1⟩ := hX.below hBa
          have HZ := Lib.hid hz
          clear hz
          have HE : limbI N (a, b, L) = false → bodyB N zs = false := fun h => body_limbI (List.mem_of_getElem? HZ.out) h
          replace HE := Lib.hid HE
          cases ha : inB a 0 ((N : Int) - 1) with
          | false =>
            have HE2 := Lib.hid (HE.out (by simp [limbI, limbB, ha]))
            go_wp2_with (fail)
            refine (HIN.out _ _ _ _).mono ?_
            rw [ha]
            rintro e w2 ⟨rfl, rfl⟩
            go_wp2_with (fail)
            go_ret
            exact ⟨ret_bool HE2.out.symm, bvia HB1.out hBa⟩
          | true =>
            go_wp2_with (fail)
            refine (HIN.out _ _ _ _).mono ?_
            rw [ha]
            rintro e w2 ⟨rfl, rfl⟩
            cases hb : inB b 0 ((N : Int) - 1) with
            | false =>
              have HE2 := Lib.hid (HE.out (by simp [limbI, limbB, hb]))
              go_wp2_with (fail)
              refine (HIN.out _ _ _ _).mono ?_
              rw [hb]
              rintro e w2 ⟨rfl, rfl⟩
              go_wp2_with (fail)
              go_ret
              exact ⟨ret_bool HE2.out.symm, bvia HB1.out hBa⟩
            | true =>
              by_cases hab : a = b
              · have HE2 := Lib.hid (HE.out (by simp [limbI, hab]))
                subst hab
                go_wp2_with (fail)
                refine (HIN.out _ _ _ _).mono ?_
                rw [hb]
                rintro e w2 ⟨rfl, rfl⟩
                go_wp2_with (fail)
                go_ret
                exact ⟨ret_bool HE2.out.symm, bvia HB1.out hBa⟩
              · have habb : (a == b) = false := beq_eq_false_iff_ne.2 hab
                go_wp2_with (fail)
                refine (HIN.out _ _ _ _).mono ?_
                rw [hb]
                rintro e w2 ⟨rfl, rfl⟩
                cases hL : inB L 1 100 with
                | false =>
                  have HE2 := Lib.hid (HE.out (by simp [limbI, limbB, hL]))
                  go_wp2_with (fail)
                  refine (HIN.out _ _ _ _).mono ?_
                  rw [hL]
                  rintro e w2 ⟨rfl, rfl⟩
                  go_wp2_with (fail)
                  go_ret
                  exact ⟨ret_bool HE2.out.symm, bvia HB1.out hBa⟩
                | true =>
                  have HK2 : Hid (∀ z ∈ zs.take (k + 1), limbI N z = true) := by
                    intro z hz
                    rcases mem_take_succ HZ.out hz with hz | rfl
                    · exact HK.out z hz
                    · simp [limbI, limbB, ha, hb, hL, hab]
                  go_wp2_with (fail)
                  refine (HIN.out _ _ _ _).mono ?_
                  rw [hL]
                  rintro e w2 ⟨rfl, rfl⟩
                  go_wp2_with (fail)
                  exact ⟨⟨k + 1, by omega, by go_num, HK2, hBa⟩, by simp [intOf]; omega⟩
        · obtain rfl : k = zs.length := by omega
          have hall := HK.out
          rw [List.take_length] at hall
          have HE := Lib.hid (body_fill (N := N) (zs := zs) (by omega) hlen fun z hz => (limbI_iff.1 (hall z hz)).1)
          have HD := Lib.hid (fun w' h => implDistances_any N zs 0 (.slice ad zs.length cap) w' h hall (by omega) (by omega))
          clear HK hall
          go_wp2_with (fail)
          refine (HD.out _ (HR.out.below hB)).mono ?_
          rintro e w3 ⟨v, rfl, ho, hb⟩
          replace hB := bvia hB hb
          clear hb
          have hv := ho.rd
          unfold distL at hv
          rw [Int.toNat_natCast] at hv
          go_wp2_with (fail)
          refine (hasUnknown_any _ _ _ hv).mono ?_
          rintro e w4 ⟨rfl, rfl⟩
          rw [show ((rl N (fill N (edges zs) 0)).any fun x => decide (x = -1)) = !bodyB N zs by rw [HE.out, Bool.not_not]]
          clear hv ho
          go_wp2_with (fail)
          go_ret
          exact ⟨ret_bool (by simp), bvia HB1.out hB⟩
    · have HE := Lib.hid (show bodyB N zs = false by unfold bodyB; rw [decide_eq_false hlen]; simp)
      go_wp2_with (fail)
      go_ret
      exact ⟨ret_bool HE.out.symm, HB1.out⟩
end Go.Proofs.Ytfedhjfijcnpdaa
