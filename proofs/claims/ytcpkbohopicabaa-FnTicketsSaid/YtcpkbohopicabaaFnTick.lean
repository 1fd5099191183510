/- The law FnTickets: change is exact and has the fewest pieces. -/
import Derived.Test.YtcpkbohopicabaaCanPay
namespace Go.Proofs.Ytcpkbohopicabaa
open Go.ChangeShapes Go.WideShapes Go.ChangeAt Go.RowKit Go.Joins
set_option linter.unusedSimpArgs false
set_option linter.unusedVariables false

def dotL : List Int → List Int → Int
  | c :: cs, v :: vs => c * v + dotL cs vs
  | _, _ => 0
theorem splitF_eq (n : Int) : splitF n = [n / 50, n % 50 / 20, n % 50 % 20 / 10, n % 50 % 20 % 10 / 5, n % 50 % 20 % 10 % 5 / 2, n % 50 % 20 % 10 % 5 % 2 / 1] := rfl
theorem splitF_dot {n : Int} (hn : 0 ≤ n) : dotL (splitF n) coins = n := by
  rw [splitF_eq]
  show n / 50 * 50 + (n % 50 / 20 * 20 + (n % 50 % 20 / 10 * 10 + (n % 50 % 20 % 10 / 5 * 5 + (n % 50 % 20 % 10 % 5 / 2 * 2 + (n % 50 % 20 % 10 % 5 % 2 / 1 * 1 + 0))))) = n
  omega
theorem splitF_bd {n : Int} (h0 : 0 ≤ n) (h1 : n ≤ 500) : ∀ z ∈ splitF n, 0 ≤ z ∧ z ≤ 100 := by
  intro z hz
  rw [splitF_eq] at hz
  simp only [List.mem_cons, List.not_mem_nil, or_false] at hz
  rcases hz with rfl | rfl | rfl | rfl | rfl | rfl <;> omega
theorem splitF_reach {n : Int} (h0 : 0 ≤ n) (h1 : n ≤ 500) : reachP (tillOf (splitF n) 6) n := by
  rw [splitF_eq]
  show reachP [(1, n % 50 % 20 % 10 % 5 % 2 / 1), (2, n % 50 % 20 % 10 % 5 / 2), (5, n % 50 % 20 % 10 / 5), (10, n % 50 % 20 / 10), (20, n % 50 / 20), (50, n / 50)] n
  refine ⟨_, ?_, Int.le_refl _, ?_, _, ?_, Int.le_refl _, ?_, _, ?_, Int.le_refl _, ?_, _, ?_, Int.le_refl _, ?_, _, ?_, Int.le_refl _, ?_, _, ?_, Int.le_refl _, ?_, ?_⟩
  all_goals first
    | omega
    | (show _ = _; omega)
theorem no_fifty : ¬ reachP (tillOf [0, 3, 0, 0, 0, 0] 6) 50 := by
  show ¬ reachP [(1, 0), (2, 0), (5, 0), (10, 0), (20, 3), (50, 0)] 50
  rintro ⟨a, a0, a1, a2, b, b0, b1, b2, c, c0, c1, c2, d, d0, d1, d2, e, e0, e1, e2, f, f0, f1, f2, h⟩
  have h' : (50 : Int) - a * 1 - b * 2 - c * 5 - d * 10 - e * 20 - f * 50 = 0 := h
  omega
theorem group_eq (age row : Int) : ([age, age, 30, 40, 12].foldl (stepG row) (0, 100)).1 - ([age, age, 30, 40, 12].foldl (stepG row) (0, 100)).2 = 2 * price age row + price 30 row + price 40 row + price 12 row - price 12 row := by
  show 0 + price age row + price age row + price 30 row + price 40 row + price 12 row - min (min (min (min (min 100 (price age row)) (price age row)) (price 30 row)) (price 40 row)) (price 12 row) = _
  have h1 := price_bd age row
  have h2 : price 30 row = full row := if_neg (by omega)
  have h3 : price 40 row = full row := if_neg (by omega)
  have h4 : price 12 row = (full row + 1) / 2 := if_pos (by omega)
  have h5 := full_bd row
  rw [h2, h3, h4]
  omega
set_option maxRecDepth 20000 in
set_option maxHeartbeats 1000000 in
theorem walkFnTickets (n : Nat) (v : Value) (w : World) (hr : RdB w w.heap.size v n) : Calls Try.prog 4 #[v] w fun e w' => e = .returned (.bool true) ∧ Below w.heap.size w w' := by
  by_cases hbig : n ≤ 1048576
  · have hbd : decide (1048576 < n) = false := decide_eq_false (by omega)
    have hB := Below.refl w.heap.size w
    go_enter Try.func4, Try.ntmps4
    go_wp2_with (fail)
    refine (big_any n _ _ _ hr).mono ?_
    rintro e w1 ⟨rfl, rfl⟩
    go_wp2_with (fail)
    refine (at_any n 0 (by omega) (by omega) _ _ _ hr).mono ?_
    rintro e w2 ⟨x, rfl, x0, x1, hd⟩
    have hb := hd.below; clear hd
    replace hr := hr.below hb
    replace hB := bvia hB hb
    clear hb
    go_wp2_with (fail)
    refine (at_any n 1 (by omega) (by omega) _ _ _ hr).mono ?_
    rintro e w3 ⟨y, rfl, y0, y1, hd⟩
    have hb := hd.below; clear hd
    replace hr := hr.below hb
    replace hB := bvia hB hb
    clear hb
    obtain ⟨N, hN⟩ : ∃ N : Nat, y * 4 = (N : Int) := ⟨(y * 4).toNat, by omega⟩
    have hN1 : N ≤ 1020 := by omega
    obtain ⟨S, hS⟩ : ∃ S : Int, x * 3 = S := ⟨_, rfl⟩
    have hS0 : 0 ≤ S ∧ S ≤ 765 := by omega
    obtain ⟨hS0, hS1⟩ := hS0
    clear x0 x1
    have HCH := Lib.hid (fun w => implChangeFor_any S (S + N) (by omega) (by omega) w)
    have hsub : S + (N : Int) - S = N := by omega
    rw [hsub] at HCH
    go_wp2_with (fail)
    clear hN y0 y1 hS
    refine (HCH.out _).mono ?_
    rintro e w4 ⟨uc, rfl, oc, hb⟩
    have zoc := hB.size
    replace hr := hr.below hb
    replace hB := bvia hB hb
    clear hb
    obtain ⟨gc, cc, rfl, hgc, hgcw, hc1, hc2⟩ : ∃ g cap, uc = .slice (some ⟨g, 0, none⟩) 6 cap ∧ w.heap.size ≤ g ∧ g < w4.heap.size ∧ 6 ≤ cap ∧ cap ≤ 9223372036854775807 := by
      rcases oc.slice with ⟨rfl, h⟩ | ⟨g, cap, rfl, h1, h2, h3, h4⟩
      · have := congrArg List.length h; simp [splitF_length] at this
      · exact ⟨g, cap, rfl, by omega, h2, h3, h4⟩
    have HNN : Hid (∀ z ∈ splitF (N : Int), 0 ≤ z ∧ z ≤ (N : Int)) := splitL_nn coins coins_pos (N : Int) (by omega)
    have HDOT := Lib.hid (splitF_dot (n := (N : Int)) (by omega))
    have hlen := splitF_length (N : Int)
    have HRE := Lib.hid (fun h => splitF_reach (n := (N : Int)) (by omega) h)
    have HBD := Lib.hid (fun h => splitF_bd (n := (N : Int)) (by omega) h)
    have HFEW := Lib.hid (fun w => implFewestPieces_any (N : Int) (by omega) w)
    generalize splitF (N : Int) = cs at oc HNN HDOT hlen HRE HBD HFEW
    have hb5 := below_alloc1 w4 (.cells #[.int .i64 50, .int .i64 20, .int .i64 10, .int .i64 5, .int .i64 2, .int .i64 1] 3)
    have ov : OwI (w4.alloc (.cells #[.int .i64 50, .int .i64 20, .int .i64 10, .int .i64 5, .int .i64 2, .int .i64 1] 3)) w4.heap.size (.slice (some ⟨w4.heap.size, 0, none⟩) 6 6) coins :=
      World.ownsRow_lit w4 #[.int .i64 50, .int .i64 20, .int .i64 10, .int .i64 5, .int .i64 2, .int .i64 1] 6 (Nat.le_refl _) (by rw [maxLen_eq]; omega) rfl
    go_wp2_with (fail)
    generalize w4.alloc (.cells #[.int .i64 50, .int .i64 20, .int .i64 10, .int .i64 5, .int .i64 2, .int .i64 1] 3) = w5 at ov hb5 ⊢
    replace oc := oc.below hb5
    replace hr := hr.below hb5
    replace hB := bvia hB hb5
    clear hb5
    generalize w4.heap.size = gv at ov ⊢
    have HOV := Lib.hid ov
    have HOC := Lib.hid oc
    have HR := Lib.hid hr
    clear ov oc hr
    go_loopw [7, 8, 9] (fun b p i wr => ∃ (k : Nat) (q r : Int), k ≤ 6 ∧ i = .int .i64 k ∧ b = .int .i64 q ∧ p = .int .i64 r ∧ 0 ≤ q ∧ q ≤ 51000 * k ∧ 0 ≤ r ∧ r ≤ 1020 * k ∧ Dr w5 wr ∧ Hid (q + dotL (cs.drop k) (coins.drop k) = N ∧ (cs.drop k).foldl (· + ·) r = sumL cs)) (fun _ _ i _ => 6 - (intOf i).toNat)
    case atStart => exact ⟨0, 0, 0, by omega, rfl, rfl, rfl, by omega, by omega, by omega, by omega, Dr.refl _, ⟨by rw [← HDOT.out]; simp, rfl⟩⟩
    case round =>
      obtain ⟨k, q, r, hk, rfl, rfl, rfl, q0, q1, r0, r1, hD, H⟩ := hrel
      by_cases hlt : k < 6
      · obtain ⟨c0, c1, c2⟩ := coins_get hlt
        have hcv := hD.cell (HOV.out.cell (show k < coins.length from hlt)).1
        have hcc := hD.cell (HOC.out.cell (show k < cs.length by omega)).1
        have hcm := HNN.out _ (show cs.getD k 0 ∈ cs by rw [getD_lt (by omega)]; exact List.getElem_mem (by omega))
        have hcd : cs.drop k = cs.getD k 0 :: cs.drop (k + 1) := by rw [getD_lt (by omega)]; exact drop_get cs k (by omega)
        have h1 := H.out.1
        have h2 := H.out.2
        rw [c2, hcd, dotL] at h1
        rw [hcd, List.foldl_cons] at h2
        clear c2 hcd H
        generalize coins.getD k 0 = x at c0 c1 hcv h1
        generalize cs.getD k 0 = y at hcm hcc h1 h2
        obtain ⟨y0, y1⟩ := hcm
        have hx0 : 0 ≤ y * x := Int.mul_nonneg y0 (by omega)
        have hx1 : y * x ≤ 1020 * 50 := Int.mul_le_mul (by omega) c1 (by omega) (by omega)
        have hwx : IntKind.i64.wrap (y * x) = y * x := IntWalk.i64_in _ (by omega)
        have HH := Lib.hid (And.intro h1 h2)
        clear h1 h2
        have hk6 : (k : Int) < 6 := by omega
        have hny : ¬ y < 0 := by omega
        go_wp2
        go_quiet (fail)
        go_wp2
        exact ⟨⟨k + 1, q + y * x, r + y, by omega, by go_num, rfl, rfl, by omega, by omega, by omega, by omega, hD.next _, ⟨by rw [← HH.out.1]; omega, HH.out.2⟩⟩, by simp [intOf]; omega⟩
      · obtain rfl : k = 6 := by omega
        obtain ⟨h1, h2⟩ := H.out
        rw [show coins.drop 6 = [] from rfl, List.drop_eq_nil_of_le (by omega)] at h1
        rw [List.drop_eq_nil_of_le (by omega)] at h2
        have hq : q = (N : Int) := by simpa [dotL] using h1
        have hr2 : r = sumL cs := h2
        have hsm : 0 ≤ sumL cs ∧ sumL cs ≤ 6120 := by rw [← hr2]; omega
        subst hq
        clear h1 h2 H HDOT
        have oc := HOC.out.below hD.below
        have hr := HR.out.below hD.below
        replace hB := bvia hB hD.below
        clear HOV HOC HR hD q1 r1
        go_wp2_with (fail)
        refine (at_any n 2 (by omega) (by omega) _ _ _ hr).mono ?_
        rintro e w5 ⟨x2, rfl, x20, x21, hd⟩
        have hb := hd.below; clear hd
        replace hr := hr.below hb
        replace oc := oc.below hb
        replace hB := bvia hB hb
        clear hb
        go_wp2_with (fail)
        refine (at_any n 3 (by omega) (by omega) _ _ _ hr).mono ?_
        rintro e w6 ⟨x3, rfl, x30, x31, hd⟩
        have hb := hd.below; clear hd
        replace hr := hr.below hb
        replace oc := oc.below hb
        replace hB := bvia hB hb
        clear hb
        clear hr
        obtain ⟨row, hrow⟩ : ∃ row, x2 % 21 = row := ⟨_, rfl⟩
        obtain ⟨age, hage⟩ : ∃ age, x3 % 121 = age := ⟨_, rfl⟩
        have hrb : 0 ≤ row ∧ row ≤ 20 := by omega
        have hab : 0 ≤ age ∧ age ≤ 120 := by omega
        have HP := Lib.hid (fun w => implPriceOf_any age row hab hrb w)
        have HP30 := Lib.hid (fun w => implPriceOf_any 30 row (by omega) hrb w)
        have HP40 := Lib.hid (fun w => implPriceOf_any 40 row (by omega) hrb w)
        have HP12 := Lib.hid (fun w => implPriceOf_any 12 row (by omega) hrb w)
        have HP13 := Lib.hid (fun w => implPriceOf_any 13 0 (by omega) (by omega) w)
        rw [show price 13 0 = 6 from rfl] at HP13
        have HG := Lib.hid (fun v w h => implGroupPrice_any [age, age, 30, 40, 12] row (by simp) (by intro z hz; simp at hz; omega) hrb v w h)
        simp only [group_eq] at HG
        obtain ⟨p1, p2, _⟩ := price_bd age row
        obtain ⟨p301, p302, _⟩ := price_bd 30 row
        obtain ⟨p401, p402, _⟩ := price_bd 40 row
        obtain ⟨p121, p122, _⟩ := price_bd 12 row
        generalize price age row = pa at HP HG p1 p2
        generalize price 30 row = pb at HP30 HG p301 p302
        generalize price 40 row = pc at HP40 HG p401 p402
        generalize price 12 row = pd at HP12 HG p121 p122
        clear hab hrb
        go_wp2_with (fail)
        clear x20 x21 x30 x31
        try simp only [hage, hrow]
        refine (HP.out _).mono ?_
        rintro e wp ⟨rfl, rfl⟩
        have hgl := below_alloc1 w6 (.cells #[.int .i64 age, .int .i64 age, .int .i64 30, .int .i64 40, .int .i64 12] 3)
        have HRL : Hid (RdI (w6.alloc (.cells #[.int .i64 age, .int .i64 age, .int .i64 30, .int .i64 40, .int .i64 12] 3)) (.slice (some ⟨w6.heap.size, 0, none⟩) 5 5) [age, age, 30, 40, 12]) :=
          rd_alloc w6 #[.int .i64 age, .int .i64 age, .int .i64 30, .int .i64 40, .int .i64 12] 3 5 (by decide)
        go_wp2_with (fail)
        try simp only [hage, hrow]
        refine (HG.out _ _ HRL.out).mono ?_
        rintro e wp ⟨rfl, rfl⟩
        replace oc := oc.below hgl
        replace hB := bvia hB hgl
        clear hgl HRL
        generalize w6.alloc (.cells #[.int .i64 age, .int .i64 age, .int .i64 30, .int .i64 40, .int .i64 12] 3) = w8 at oc hB ⊢
        go_wp2_with (fail)
        refine (HP30.out _).mono ?_
        rintro e wp ⟨rfl, rfl⟩
        go_wp2_with (fail)
        refine (HP40.out _).mono ?_
        rintro e wp ⟨rfl, rfl⟩
        go_wp2_with (fail)
        refine (HP12.out _).mono ?_
        rintro e wp ⟨rfl, rfl⟩
        have HC50 := Lib.hid (fun v w h => implCanPay_any [0, 3, 0, 0, 0, 0] 50 rfl (by decide) (by omega) v w h)
        rw [show ((50 : Nat) : Int) = 50 from rfl] at HC50
        have hq2 : 2 * pa + pb + pc + pd - pd = 2 * pa + pb + pc := by omega
        obtain ⟨hsm0, hsm1⟩ := hsm
        generalize sumL cs = sm at HFEW hsm0 hsm1 ⊢
        go_wp2_with (fail)
        refine (HFEW.out _).mono ?_
        rintro e w9 ⟨rfl, hb⟩
        replace oc := oc.below hb
        replace hB := bvia hB hb
        clear hb
        go_wp2_with (fail)
        refine (HP12.out _).mono ?_
        rintro e wp ⟨rfl, rfl⟩
        by_cases hN5 : (N : Int) ≤ 500
        · have hng : ¬ 500 < (N : Int) := by omega
          have HCC := Lib.hid (fun v w h => implCanPay_any cs N hlen (HBD.out hN5) (by omega) v w h)
          go_wp2_with (fail)
          refine (HCC.out _ _ oc.rd).mono ?_
          rintro e w10 ⟨b, rfl, hbt, hb⟩
          obtain rfl : b = true := hbt.2 (HRE.out hN5)
          replace hB := bvia hB hb
          clear hb hbt oc HCC
          have hgl := below_alloc1 w10 (.cells #[.int .i64 0, .int .i64 3, .int .i64 0, .int .i64 0, .int .i64 0, .int .i64 0] 3)
          have HRL : Hid (RdI (w10.alloc (.cells #[.int .i64 0, .int .i64 3, .int .i64 0, .int .i64 0, .int .i64 0, .int .i64 0] 3)) (.slice (some ⟨w10.heap.size, 0, none⟩) 6 6) [0, 3, 0, 0, 0, 0]) :=
            rd_alloc w10 #[.int .i64 0, .int .i64 3, .int .i64 0, .int .i64 0, .int .i64 0, .int .i64 0] 3 6 (by decide)
          replace hB := bvia hB hgl
          clear hgl
          go_wp2_with (fail)
          refine (HC50.out _ _ HRL.out).mono ?_
          rintro e w11 ⟨b, rfl, hbt, hb⟩
          obtain rfl : b = false := by
            cases b with
            | false => rfl
            | true => exact absurd (hbt.1 rfl) no_fifty
          replace hB := bvia hB hb
          clear hb hbt
          go_wp2_with (fail)
          refine (HP13.out _).mono ?_
          rintro e wp ⟨rfl, rfl⟩
          go_wp2_with (fail)
          go_returns
          exact ⟨rfl, hB⟩
        · have hng : 500 < (N : Int) := by omega
          clear oc
          have hgl := below_alloc1 w9 (.cells #[.int .i64 0, .int .i64 3, .int .i64 0, .int .i64 0, .int .i64 0, .int .i64 0] 3)
          have HRL : Hid (RdI (w9.alloc (.cells #[.int .i64 0, .int .i64 3, .int .i64 0, .int .i64 0, .int .i64 0, .int .i64 0] 3)) (.slice (some ⟨w9.heap.size, 0, none⟩) 6 6) [0, 3, 0, 0, 0, 0]) :=
            rd_alloc w9 #[.int .i64 0, .int .i64 3, .int .i64 0, .int .i64 0, .int .i64 0, .int .i64 0] 3 6 (by decide)
          replace hB := bvia hB hgl
          clear hgl
          go_wp2_with (fail)
          refine (HC50.out _ _ HRL.out).mono ?_
          rintro e w11 ⟨b, rfl, hbt, hb⟩
          obtain rfl : b = false := by
            cases b with
            | false => rfl
            | true => exact absurd (hbt.1 rfl) no_fifty
          replace hB := bvia hB hb
          clear hb hbt
          go_wp2_with (fail)
          refine (HP13.out _).mono ?_
          rintro e wp ⟨rfl, rfl⟩
          go_wp2_with (fail)
          go_returns
          exact ⟨rfl, hB⟩
  · have hbd : decide (1048576 < n) = true := decide_eq_true (by omega)
    go_enter Try.func4, Try.ntmps4
    go_wp2_with (fail)
    refine (big_any n _ _ _ hr).mono ?_
    rintro e w1 ⟨rfl, rfl⟩
    go_wp2_with (fail)
    go_returns
    exact ⟨rfl, Below.refl _ _⟩
end Go.Proofs.Ytcpkbohopicabaa
