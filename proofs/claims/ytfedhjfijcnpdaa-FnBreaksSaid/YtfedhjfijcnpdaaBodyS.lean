/- BodyOk of the reference. -/
import Derived.Test.YtfedhjfijcnpdaaStLimb
import Derived.Test.YtfedhjfijcnpdaaTreeL
import Derived.Test.YtfedhjfijcnpdaaRg
namespace Go.Proofs.Ytfedhjfijcnpdaa
open Go.ChangeShapes Go.WideShapes Go.ChangeAt Go.RowKit Go.Joins Tr
set_option linter.unusedSimpArgs false
set_option linter.unusedVariables false
set_option maxRecDepth 20000

/-- The body's box. -/
def BX (w : World) (g : Nat) (J : Int) (u : Value) : Prop := w.cell? ⟨g, 0, none⟩ = some (.int .i64 J) ∧ w.cell? ⟨g, 1, none⟩ = some u
theorem BX.below {w w' : World} {g : Nat} {J : Int} {u : Value} (h : BX w g J u) (hb : Below w.heap.size w w') : BX w' g J u := ⟨cell_on hb h.1, cell_on hb h.2⟩
theorem BX.new (w : World) (J : Int) (u : Value) : BX (w.alloc (.cells #[.int .i64 J, u] 26)) w.heap.size J u := by refine ⟨?_, ?_⟩ <;> simp [go_sem]
/-- The limbs' cells. -/
def LC (w : World) (bl off : Nat) (zs : List LimbV) : Prop := ∀ (i : Nat) z, zs[i]? = some z → w.cell? ⟨bl, off + i * 3, none⟩ = some (.int .i64 z.1) ∧ w.cell? ⟨bl, off + i * 3 + 1, none⟩ = some (.int .i64 z.2.1) ∧ w.cell? ⟨bl, off + i * 3 + 2, none⟩ = some (.int .i64 z.2.2)
theorem LC.below {w w' : World} {bl off : Nat} {zs : List LimbV} (h : LC w bl off zs) (hb : Below w.heap.size w w') : LC w' bl off zs := fun i z hz => ⟨cell_on hb (h i z hz).1, cell_on hb (h i z hz).2.1, cell_on hb (h i z hz).2.2⟩
theorem RdLimb.openC {w : World} {v : Value} {zs : List LimbV} (h : RdLimb w v zs) : ∃ (a : Option Addr) (cap b off : Nat), v = .slice a zs.length cap ∧ zs.length ≤ cap ∧ cap ≤ 9223372036854775807 ∧ (0 < zs.length → a = some ⟨b, off, none⟩) ∧ LC w b off zs := by
  obtain ⟨a, cap, b, off, rfl, h1, h2, h3, h4⟩ := h.open
  refine ⟨a, cap, b, off, rfl, h1, h2, h3, fun i z hz => ?_⟩
  have := h4 i (List.getElem?_eq_some_iff.1 hz).1
  rw [List.getD_eq_getElem?_getD, hz] at this
  exact this

theorem rl_rep (N : Nat) (z : Int) : List.replicate N z = rl N (fun _ => z) := by simp [rl, List.map_const']
theorem OwI.rlc {w : World} {B g n cap N : Nat} {f : Nat → Int} (h : OwI w B (.slice (some ⟨g, 0, none⟩) n cap) (rl N f)) {k : Nat} (hk : k < N) : w.cell? ⟨g, k, none⟩ = some (.int .i64 (f k)) ∧ w.frozen? ⟨g, k, none⟩ = false := by
  have := h.cell (k := k) (by rw [rl_len]; exact hk)
  rw [rl_getD f hk] at this
  exact this
theorem OwI.rls {w : World} {B g n cap N : Nat} {f : Nat → Int} (h : OwI w B (.slice (some ⟨g, 0, none⟩) n cap) (rl N f)) (k : Nat) (x : Int) : OwI (w.setCell ⟨g, k, none⟩ (.int .i64 x)) B (.slice (some ⟨g, 0, none⟩) n cap) (rl N (upd f k x)) ∧ w.grownBy (w.setCell ⟨g, k, none⟩ (.int .i64 x)) (some g) := by
  have := h.set k x
  rw [rl_set] at this
  exact this

set_option maxHeartbeats 1000000 in
theorem specBodyOk_any (J : Int) (zs : List LimbV) (u : Value) (w : World) (h : RdLimb w u zs) :
    Calls Try.prog 64 #[.agg #[.int .i64 J, u]] w fun e w' => e = .returned (.bool (bodyB J zs)) ∧ Below w.heap.size w w' := by
  obtain ⟨ad, cap, bl, off, rfl, hcap, hmax, had, hc⟩ := h.openC
  have hb0 := below_alloc1 w (.cells #[.int .i64 J, .slice ad zs.length cap] 26)
  have hx0 := BX.new w J (.slice ad zs.length cap)
  have HC := Lib.hid (hc.below hb0)
  have HS := Lib.hid (And.intro hb0 hx0)
  clear h hc hb0 hx0
  go_enter Try.func64, Try.ntmps64
  go_wp2_with (fail)
  generalize w.alloc (.cells #[.int .i64 J, .slice ad zs.length cap] 26) = w1 at HS HC ⊢
  obtain ⟨hB, hX⟩ := HS.out
  clear HS
  have HIN := Lib.hid (fun n a b w' => l01In_any n a b w')
  obtain ⟨m0, m1⟩ := id hX
  cases h5 : inB J 1 12 with
  | false =>
    have HE := Lib.hid (show bodyB J zs = false by unfold bodyB; rw [h5]; rfl)
    go_wp2_with (fail)
    refine (HIN.out _ _ _ _).mono ?_
    rw [h5]
    rintro e w2 ⟨rfl, rfl⟩
    go_wp2_with (fail)
    go_ret
    exact ⟨ret_bool HE.out.symm, hB⟩
  | true =>
    have hJ := inB_true.1 h5
    have HJ5 := Lib.hid h5
    obtain ⟨N, rfl⟩ : ∃ N : Nat, J = N := ⟨J.toNat, by omega⟩
    go_wp2_with (fail)
    refine (HIN.out _ _ _ _).mono ?_
    rw [h5]
    rintro e w2 ⟨rfl, rfl⟩
    clear h5
    have HB1 := Lib.hid hB
    clear hB
    by_cases hlen : (zs.length : Int) = (N : Int) - 1
    · have hmk := run_make_row' (P := Try.prog) 27 3 (.int .i64 0) 8 underInts infoInt rfl .i64 .i64 N (by omega) (by omega)
      have hN12 : N ≤ 12 := by omega
      have hmade := OwI.made w1 N (by omega)
      rw [rl_rep] at hmade
      have hg0 := below_alloc1 w1 (.cells (madeCells #[.int .i64 0] N) 3)
      have HO := Lib.hid (And.intro hmade hg0)
      clear hmade hg0
      go_wp2_with (fail)
      clear hmk
      generalize hwa : w1.alloc (.cells (madeCells #[.int .i64 0] N) 3) = wa at HO ⊢
      clear hwa
      obtain ⟨hO, hB⟩ := HO.out
      clear HO
      go_loopw [4] (fun i wr => ∃ k : Nat, k ≤ N ∧ i = .int .i64 k ∧ OwI wr w1.heap.size (.slice (some ⟨w1.heap.size, 0, none⟩) N N) (rl N (fun v => if v < k then (v : Int) else 0)) ∧ Below w1.heap.size w1 wr) (fun i _ => N - (intOf i).toNat)
      case atStart => exact ⟨0, Nat.zero_le _, rfl, by simpa using hO, hB⟩
      case round =>
       focus
        clear hO hB
        obtain ⟨k, hk, rfl, hO, hB⟩ := hrel
        obtain ⟨m0, m1⟩ := hX.below hB
        by_cases hlt : k < N
        · have qk : (k : Int) < (N : Int) := by omega
          obtain ⟨c0, f0⟩ := hO.rlc hlt
          obtain ⟨hO2, hg2⟩ := hO.rls k (k : Int)
          have hB2 := hO.grown_below hB (Nat.le_refl _) hg2
          have e2 : rl N (upd (fun v => if v < k then (v : Int) else 0) k (k : Int)) = rl N (fun v => if v < k + 1 then (v : Int) else 0) := rl_congr fun v hv => by
            by_cases e : v = k
            · subst e; simp [upd]
            · rw [upd_ne e]
              have : (v < k + 1) = (v < k) := by simp; omega
              simp [this]
          rw [e2] at hO2
          have HQ := Lib.hid (And.intro hO2 hB2)
          clear hO hB hO2 hg2 hB2 e2
          go_wp2_with (fail)
          exact ⟨⟨k + 1, by omega, by go_num, HQ.out.1, HQ.out.2⟩, by simp [intOf]; omega⟩
        · have e0 : rl N (fun v => if v < k then (v : Int) else 0) = rl N (fun v => (((fun x => x) v : Nat) : Int)) := rl_congr fun v hv => by rw [if_pos (by omega)]
          rw [e0] at hO
          clear m0 m1
          obtain ⟨m0, m1⟩ := hX.below hB
          go_wp2_with (fail)
          go_loopw [5] (fun i wr => ∃ (k : Nat) (P : Nat → Nat), k ≤ zs.length ∧ i = .int .i64 k ∧ Hid (BodyK N zs k P) ∧ OwI wr w1.heap.size (.slice (some ⟨w1.heap.size, 0, none⟩) N N) (rl N (fun v => (P v : Int))) ∧ Below w1.heap.size w1 wr) (fun i _ => zs.length - (intOf i).toNat)
          case atStart => exact ⟨0, _, Nat.zero_le _, rfl, BodyK.nil _ _, hO, hB⟩
          case round =>
           focus
            clear hO hB m0 m1 hlt
            obtain ⟨k, P, hk, rfl, HK, hO, hB⟩ := hrel
            obtain ⟨m0, m1⟩ := hX.below hB
            by_cases hlt : k < zs.length
            · obtain rfl := had (by omega)
              obtain ⟨⟨a, b, L⟩, hz⟩ : ∃ x, zs[k]? = some x := ⟨_, List.getElem?_eq_getElem hlt⟩
              obtain ⟨c0, c1, c2⟩ := (HC.out.below hB) k _ hz
              dsimp only at c0 c1 c2
              have qk : (k : Int) < (zs.length : Int) := by omega
              have hBa := hB.alloc hB.size (.cells #[.int .i64 a, .int .i64 b, .int .i64 L] 80)
              have hOa := hO.alloc (.cells #[.int .i64 a, .int .i64 b, .int .i64 L] 80)
              obtain ⟨n0, n1⟩ := hX.below hBa
              have HZ := Lib.hid hz
              clear hz
              cases hb : limbB N (a, b, L) with
              | false =>
                have HE := Lib.hid (body_limb (List.mem_of_getElem? HZ.out) hb)
                have hbn : ¬ (inB a 0 ((N : Int) - 1) = true ∧ inB b 0 ((N : Int) - 1) = true ∧ inB L 1 100 = true) := by
                  intro h
                  have : limbB N (a, b, L) = true := by unfold limbB; rw [h.1, h.2.1, h.2.2]; rfl
                  rw [this] at hb
                  cases hb
                have HNB := Lib.hid hbn
                clear hb hbn
                cases ha : inB a 0 ((N : Int) - 1) with
                | false =>
                  go_wp2_with (fail)
                  refine (HIN.out _ _ _ _).mono ?_
                  rw [ha]
                  rintro e w2 ⟨rfl, rfl⟩
                  go_wp2_with (fail)
                  go_ret
                  exact ⟨ret_bool HE.out.symm, bvia HB1.out hBa⟩
                | true =>
                  go_wp2_with (fail)
                  refine (HIN.out _ _ _ _).mono ?_
                  rw [ha]
                  rintro e w2 ⟨rfl, rfl⟩
                  cases hb : inB b 0 ((N : Int) - 1) with
                  | false =>
                    go_wp2_with (fail)
                    refine (HIN.out _ _ _ _).mono ?_
                    rw [hb]
                    rintro e w2 ⟨rfl, rfl⟩
                    go_wp2_with (fail)
                    go_ret
                    exact ⟨ret_bool HE.out.symm, bvia HB1.out hBa⟩
                  | true =>
                    go_wp2_with (fail)
                    refine (HIN.out _ _ _ _).mono ?_
                    rw [hb]
                    rintro e w2 ⟨rfl, rfl⟩
                    have hL : inB L 1 100 = false := by
                      cases hL : inB L 1 100 with
                      | false => rfl
                      | true => exact absurd ⟨ha, hb, hL⟩ HNB.out
                    go_wp2_with (fail)
                    refine (HIN.out _ _ _ _).mono ?_
                    rw [hL]
                    rintro e w2 ⟨rfl, rfl⟩
                    go_wp2_with (fail)
                    go_ret
                    exact ⟨ret_bool HE.out.symm, bvia HB1.out hBa⟩
              | true =>
                obtain ⟨⟨a1, a2⟩, ⟨b1, b2⟩, l1, l2⟩ := limbB_iff.1 hb
                dsimp only at a1 a2 b1 b2 l1 l2
                have HLB := Lib.hid hb
                have ha : inB a 0 ((N : Int) - 1) = true := inB_true.2 ⟨a1, a2⟩
                have hb' : inB b 0 ((N : Int) - 1) = true := inB_true.2 ⟨b1, b2⟩
                have hL : inB L 1 100 = true := inB_true.2 ⟨l1, l2⟩
                have HI3 := Lib.hid (And.intro ha (And.intro hb' hL))
                clear hb ha hb' hL
                obtain ⟨a, rfl⟩ : ∃ m : Nat, a = m := ⟨a.toNat, by omega⟩
                obtain ⟨b, rfl⟩ : ∃ m : Nat, b = m := ⟨b.toNat, by omega⟩
                have ha3 : a < N := by omega
                have hb3 : b < N := by omega
                go_wp2_with (fail)
                refine (HIN.out _ _ _ _).mono ?_
                rw [HI3.out.1]
                rintro e w2 ⟨rfl, rfl⟩
                go_wp2_with (fail)
                refine (HIN.out _ _ _ _).mono ?_
                rw [HI3.out.2.1]
                rintro e w2 ⟨rfl, rfl⟩
                go_wp2_with (fail)
                refine (HIN.out _ _ _ _).mono ?_
                rw [HI3.out.2.2]
                rintro e w2 ⟨rfl, rfl⟩
                clear c0 c1 c2
                obtain ⟨c0, f0⟩ := hOa.rlc ha3
                obtain ⟨c1, f1⟩ := hOa.rlc hb3
                by_cases hpp : P a = P b
                · have HE := Lib.hid (HK.out.bad HZ.out hpp)
                  have hpi : (P a : Int) = (P b : Int) := by rw [hpp]
                  go_wp2_with (fail)
                  go_ret
                  exact ⟨ret_bool HE.out.symm, bvia HB1.out hBa⟩
                · have HN := Lib.hid (HK.out.next HZ.out HLB.out hpp)
                  simp only [Int.toNat_natCast] at HN
                  have hpi : ¬ (P a : Int) = (P b : Int) := by omega
                  go_wp2_with (fail)
                  generalize wr.alloc (.cells #[.int .i64 (a : Int), .int .i64 (b : Int), .int .i64 L] 80) = wl at hBa hOa ⊢
                  clear hO hB m0 m1 c0 c1 f0 f1
                  go_loopw [9] (fun i wr => ∃ i' : Nat, i' ≤ N ∧ i = .int .i64 i' ∧ OwI wr w1.heap.size (.slice (some ⟨w1.heap.size, 0, none⟩) N N) (rl N (fun v => (mgU P a b i' v : Int))) ∧ Below w1.heap.size w1 wr) (fun i _ => N - (intOf i).toNat)
                  case atStart => exact ⟨0, Nat.zero_le _, rfl, by rw [mgU_zero]; exact hOa, hBa⟩
                  case round =>
                   focus
                    clear hOa hBa
                    obtain ⟨i, hi, rfl, hO, hB⟩ := hrel
                    obtain ⟨m0, m1⟩ := hX.below hB
                    by_cases hin : i < N
                    · have qi : (i : Int) < (N : Int) := by omega
                      obtain ⟨c0, f0⟩ := hO.rlc hin
                      rw [mgU_at] at c0
                      by_cases hpb : P i = P b
                      · have hpbi : (P i : Int) = (P b : Int) := by rw [hpb]
                        obtain ⟨hO2, hg2⟩ := hO.rls i (P a : Int)
                        have hB2 := hO.grown_below hB (Nat.le_refl _) hg2
                        rw [mgU_hit hpb] at hO2
                        have HQ := Lib.hid (And.intro hO2 hB2)
                        rw [hpbi] at c0
                        clear hO hB hO2 hg2 hB2 hpb hpbi
                        go_wp2_with (fail)
                        exact ⟨⟨i + 1, by omega, by go_num, HQ.out.1, HQ.out.2⟩, by simp [intOf]; omega⟩
                      · have hpbi : ¬ (P i : Int) = (P b : Int) := by omega
                        rw [mgU_miss hpb] at hO
                        have HQ := Lib.hid (And.intro hO hB)
                        clear hO hB
                        go_wp2_with (fail)
                        exact ⟨⟨i + 1, by omega, by go_num, HQ.out.1, HQ.out.2⟩, by simp [intOf]; omega⟩
                    · obtain rfl : i = N := by omega
                      rw [mgU_end] at hO
                      have HQ := Lib.hid (And.intro hO hB)
                      clear hO hB
                      go_wp2_with (fail)
                      exact ⟨⟨k + 1, _, by omega, by go_num, HN.out, HQ.out.1, HQ.out.2⟩, by simp [intOf]; omega⟩
            · obtain rfl : k = zs.length := by omega
              have HE := Lib.hid (HK.out.full HJ5.out hlen)
              go_wp2_with (fail)
              go_ret
              exact ⟨ret_bool HE.out.symm, bvia HB1.out hB⟩
    · have HE := Lib.hid (show bodyB N zs = false by unfold bodyB; rw [decide_eq_false hlen]; simp)
      go_wp2_with (fail)
      go_ret
      exact ⟨ret_bool HE.out.symm, HB1.out⟩
end Go.Proofs.Ytfedhjfijcnpdaa
