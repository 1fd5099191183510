/- The walk of the law FnWages: shares make the sum, and who works more never gets less. -/
import Derived.Test.YtkkcglncjdoacaaDrawC
import Derived.Test.YtkkcglncjdoacaaRg2
namespace Go.Proofs.Ytkkcglncjdoacaa
open Go.ChangeShapes Go.WideShapes Go.ChangeAt Go.RowKit Go.Joins
set_option linter.unusedSimpArgs false
set_option linter.unusedVariables false

set_option maxHeartbeats 800000 in
theorem drawWork_any (n : Nat) (v : Value) (w : World) (h : RdB w w.heap.size v n) :
    Calls Try.prog 6 #[v] w fun e w' => ∃ (s : Int) (u : Value), e = .returned (.tuple #[.int .i64 s, u]) ∧ ∃ zs, OwI w' w.heap.size u zs ∧ workB s zs = true ∧ Below w.heap.size w w' := by
  go_enter Try.func6, Try.ntmps6
  go_wp2_with (fail)
  refine (l01New_any n v w h).mono ?_
  rintro e w1 ⟨g, rfl, hc, hB⟩
  have hgl := hc.lt'
  have hs1 := hB.size
  go_wp2_with (fail)
  refine (l01Below_any _ g 30 (by omega) _ hc).mono ?_
  rintro e w2 ⟨x, rfl, x0, x1, _, hc2, hg⟩
  replace hB := below_cur hB hg hgl.1 (by omega)
  have hs2 := hg.size
  clear hg hc
  replace x1 := x1 (by omega)
  obtain ⟨t, ht⟩ : ∃ t, 1 + x = t := ⟨_, rfl⟩
  have ht1 : 1 ≤ t ∧ t ≤ 30 := by omega
  have ho : OwI (w2.alloc (.cells #[.int .i64 t] 3)) w1.heap.size (.slice (some ⟨w2.heap.size, 0, none⟩) 1 1) [t] := World.ownsRow_lit w2 #[.int .i64 t] 1 hs2 (by rw [maxLen_eq]; omega) rfl
  have hbl := below_alloc1 w2 (.cells #[.int .i64 t] 3)
  have hc3 := hc2.below hbl
  have hB3 := bvia hB hbl
  have HS := Lib.hid (And.intro ho (And.intro hc3 hB3))
  clear ho hbl hc3 hB3 hc2 hB
  go_wp2_with (fail)
  generalize w2.alloc (.cells #[.int .i64 t] 3) = w3 at HS ⊢
  obtain ⟨ho, hc, hB⟩ := HS.out
  clear HS ht x0 x1
  generalize w2.heap.size = g2 at ho hs2 ⊢
  refine (l01Below_any _ g 6 (by omega) _ hc).mono ?_
  rintro e w4 ⟨m, rfl, m0, m1, _, hc4, hg⟩
  replace hB := below_cur hB hg hgl.1 (by have := hB.size; omega)
  replace ho := ho.kept hg (dis_cur ho.lt hgl.2)
  clear hg hc
  replace m1 := m1 (by omega)
  go_wp2_with (fail)
  go_loopw [5, 7] (fun u i wr => ∃ (k : Nat) (A : List Int), (k : Int) ≤ m ∧ i = .int .i64 k ∧ OwI wr w1.heap.size u A ∧ A.length = k + 1 ∧ Cur wr w.heap.size g ∧ Below w.heap.size w wr ∧ Hid ((∀ x ∈ A, 0 ≤ x ∧ x ≤ 40) ∧ 1 ≤ sumI A)) (fun _ i _ => (m - intOf i).toNat)
  case atStart => exact ⟨0, [t], by omega, rfl, ho, rfl, hc4, hB, ⟨fun y hy => by simp at hy; omega, by simp [sumI]; omega⟩⟩
  case round =>
    clear ho hB hc4
    obtain ⟨k, A, hk, rfl, ho, hA, hc, hB, HA⟩ := hrel
    have hsr := hB.size
    have hogl := ho.lt
    by_cases hlt : (k : Int) < m
    · go_wp2_with (fail)
      refine (l01Below_any _ g 40 (by omega) _ hc).mono ?_
      rintro e w5 ⟨y, rfl, y0, y1, _, hc5, hg⟩
      replace hB := below_cur hB hg hgl.1 (by omega)
      replace ho := ho.kept hg (dis_cur ho.lt hgl.2)
      have hs5 := hg.size
      clear hg hc hogl
      replace y1 := y1 (by omega)
      have hw1 : w1.heap.size ≤ w5.heap.size := by
        rcases ho.slice with ⟨_, h0⟩ | ⟨q, cp, _, h1, h2, _⟩
        · rw [h0] at hA; simp at hA
        · omega
      have HA2 : Hid ((∀ x ∈ A ++ [y], 0 ≤ x ∧ x ≤ 40) ∧ 1 ≤ sumI (A ++ [y])) := by
        refine ⟨fun z hz => ?_, ?_⟩
        · rcases List.mem_append.1 hz with hz | hz
          · exact HA.out.1 z hz
          · simp at hz; omega
        · rw [sumI_append, sumI_cons, sumI_nil]
          have := HA.out.2
          omega
      go_wp2_with (at_builtin; refine wpList_pushI rfl (.tmp 21) (.tmp 24) rfl _ _ w1.heap.size _ _ rfl ho rfl (by omega) hw1 ?_; intro v6 w6 o6 hgr _; have hc6 := hc5.kept hgr (fun q hq => by have := (ho.lt q hq).1; omega) (dis_cur' ho.lt hgl.2); have hB6 := hB.grown hgr (by omega) (fun q hq => by have := (ho.lt q hq).1; omega); clear hgr)
      exact ⟨⟨k + 1, A ++ [y], by omega, by go_num, o6, by simp [hA], hc6, hB6, HA2.out⟩, by simp [intOf]; omega⟩
    · obtain ⟨ao, co, rfl, _, _, _⟩ := ho.form
      go_wp2_with (fail)
      refine (l01Below_any _ g 200 (by omega) _ hc).mono ?_
      rintro e w5 ⟨y, rfl, y0, y1, _, hc5, hg⟩
      replace hB := below_cur hB hg hgl.1 (by omega)
      replace ho := ho.kept hg (dis_cur ho.lt hgl.2)
      clear hg hc hogl
      replace y1 := y1 (by omega)
      have hwk : workB (7 * y) A = true := workB_iff.2 ⟨inB_true.2 (by omega), inB_true.2 (by omega), List.all_eq_true.2 fun x hx => inB_true.2 (by have := HA.out.1 x hx; omega), by have := HA.out.2; omega⟩
      have HWK := Lib.hid hwk
      clear hwk
      go_wp2_with (fail)
      go_ret2
      have ho2 := ho.base hs1
      rw [hA] at ho2
      exact ⟨_, _, rfl, A, ho2, HWK.out, hB⟩
def psum (f : Int → Int) : Nat → Int
  | 0 => 0
  | k + 1 => psum f k + f k
theorem psum_7 (f : Int → Int) : psum f 7 = one7 f := by
  show 0 + f 0 + f 1 + f 2 + f 3 + f 4 + f 5 + f 6 = f 0 + f 1 + f 2 + f 3 + f 4 + f 5 + f 6
  omega
theorem take_sum {zs : List Int} {k : Nat} (h : k < zs.length) : sumI (zs.take (k + 1)) = sumI (zs.take k) + zs.getD k 0 := by
  rw [take_snoc h, sumI_append, sumI_cons, sumI_nil]
  omega
set_option maxRecDepth 40000 in
set_option maxHeartbeats 40000000 in
theorem walkFnWages (n : Nat) (v : Value) (w : World) (hr : RdB w w.heap.size v n) : Calls Try.prog 3 #[v] w fun e w' => e = .returned (.bool true) ∧ Below w.heap.size w w' := by
  by_cases hbig : n ≤ 1048576
  · have hbd : decide (1048576 < n) = false := decide_eq_false (by omega)
    have hB := Below.refl w.heap.size w
    go_enter Try.func3, Try.ntmps3
    go_wp2_with (fail)
    refine (big_any n _ _ _ hr).mono ?_
    rintro e w1 ⟨rfl, rfl⟩
    go_wp2_with (fail)
    refine (drawWork_any n _ _ hr).mono ?_
    rintro e w2 ⟨s, uw, rfl, zs, ow, hW, hb⟩
    have zow := hB.size
    replace hr := hr.below hb
    replace hB := bvia hB hb
    clear hb
    obtain ⟨hs, hl, hzm, hT⟩ := work_facts hW
    obtain ⟨hs0, hs1⟩ := hs
    obtain ⟨hl1, hl2⟩ := hl
    have HZM := Lib.hid hzm
    clear hzm
    obtain ⟨gw, cw, rfl, _, _, hcw, hmw⟩ : ∃ g cap, uw = .slice (some ⟨g, 0, none⟩) zs.length cap ∧ w.heap.size ≤ g ∧ g < w2.heap.size ∧ zs.length ≤ cap ∧ cap ≤ 9223372036854775807 := by
      rcases ow.slice with ⟨_, h⟩ | ⟨g, cap, rfl, h1, h2, h3, h4⟩
      · rw [h] at hl1; simp at hl1
      · exact ⟨g, cap, rfl, h1, h2, h3, h4⟩
    go_wp2_with (fail)
    refine (implShareByWork_any s zs (by omega) _ _ ow.rd).mono ?_
    rintro e w3 ⟨ua, rfl, oa, hb⟩
    have zoa := hB.size
    replace hr := hr.below hb
    replace ow := ow.below hb
    replace hB := bvia hB hb
    clear hb
    obtain ⟨hal, hsum, hmono, hbnd⟩ := shares_main hW
    have HMONO := Lib.hid hmono
    have HBND := Lib.hid hbnd
    have HSUM := Lib.hid hsum
    clear hmono hbnd hsum
    generalize shareByWork s zs = sh at oa hal HMONO HBND HSUM
    obtain ⟨ga, ca, rfl, _, _, hca, hma⟩ : ∃ g cap, ua = .slice (some ⟨g, 0, none⟩) sh.length cap ∧ w.heap.size ≤ g ∧ g < w3.heap.size ∧ sh.length ≤ cap ∧ cap ≤ 9223372036854775807 := by
      rcases oa.slice with ⟨_, h⟩ | ⟨g, cap, rfl, h1, h2, h3, h4⟩
      · rw [h] at hal; simp at hal; omega
      · exact ⟨g, cap, rfl, by omega, h2, h3, h4⟩
    rw [hal] at hca
    go_wp2_with (fail)
    refine (at_any n 0 (by omega) (by omega) _ _ _ hr).mono ?_
    rintro e w4 ⟨x, rfl, x0, x1, hd⟩
    have hb := hd.below; clear hd
    replace hr := hr.below hb
    replace ow := ow.below hb
    replace oa := oa.below hb
    replace hB := bvia hB hb
    clear hb
    obtain ⟨nn, hnn⟩ : ∃ nn, 1 + x % 20 = nn := ⟨_, rfl⟩
    have hn20 : 1 ≤ nn ∧ nn ≤ 20 := by omega
    obtain ⟨hn0, hn1⟩ := hn20
    have HEQ := Lib.hid (fun w => implShareEqually_any s nn w)
    go_wp2_with (fail)
    try simp only [hnn]
    clear x0 x1 hnn
    refine (HEQ.out _).mono ?_
    rintro e w5 ⟨ue, rfl, oe, hb⟩
    have zoe := hB.size
    replace hr := hr.below hb
    replace ow := ow.below hb
    replace oa := oa.below hb
    replace hB := bvia hB hb
    clear hb
    have hel := equal_len ⟨hs0, hs1⟩ ⟨hn0, hn1⟩
    have HES := Lib.hid (equal_sum ⟨hs0, hs1⟩ ⟨hn0, hn1⟩)
    have HEB := Lib.hid (equal_bd ⟨hs0, hs1⟩ ⟨hn0, hn1⟩)
    have HEF := Lib.hid (equal_fair ⟨hs0, hs1⟩ ⟨hn0, hn1⟩)
    have HFA := Lib.hid (fun v w h => implFairnessOf_any (shareEqually s nn) v w h)
    rw [HEF.out] at HFA
    generalize shareEqually s nn = es at oe hel HES HEB HFA
    obtain ⟨ge, ce, rfl, _, _, hce, hme⟩ : ∃ g cap, ue = .slice (some ⟨g, 0, none⟩) es.length cap ∧ w.heap.size ≤ g ∧ g < w5.heap.size ∧ es.length ≤ cap ∧ cap ≤ 9223372036854775807 := by
      rcases oe.slice with ⟨_, h⟩ | ⟨g, cap, rfl, h1, h2, h3, h4⟩
      · rw [h] at hel; simp at hel; omega
      · exact ⟨g, cap, rfl, by omega, h2, h3, h4⟩
    have HW4 := zoe
    have HOW := Lib.hid ow
    have HOA := Lib.hid oa
    have HOE := Lib.hid oe
    have HR := Lib.hid hr
    clear ow oa oe hr HEQ HEF
    rw [hal] at HOA
    go_wp2_with (fail)
    go_loopw [8, 9, 10] (fun a b i wr => ∃ (k : Nat) (q r : Int), k ≤ zs.length ∧ i = .int .i64 k ∧ a = .int .i64 q ∧ b = .int .i64 r ∧ 0 ≤ q ∧ q ≤ 1000000001 * k ∧ 0 ≤ r ∧ r ≤ 1000 * k ∧ Dr w5 wr ∧ Hid (q = sumI (sh.take k) ∧ r = sumI (zs.take k))) (fun _ _ i _ => zs.length - (intOf i).toNat)
    case atStart => exact ⟨0, 0, 0, Nat.zero_le _, rfl, rfl, rfl, by omega, by omega, by omega, by omega, Dr.refl _, ⟨rfl, rfl⟩⟩
    case round =>
     focus
      obtain ⟨k, q, r, hk, rfl, rfl, rfl, q0, q1, r0, r1, hD, H⟩ := hrel
      by_cases hlt : k < zs.length
      · have cwk := hD.cell (HOW.out.cell hlt).1
        have cak := hD.cell (HOA.out.cell (show k < sh.length by omega)).1
        have hwm := HZM.out _ (show zs.getD k 0 ∈ zs by rw [getD_lt hlt]; exact List.getElem_mem hlt)
        obtain ⟨b0, b1, _, _⟩ := HBND.out k hlt
        have HN : Hid (q + sh.getD k 0 = sumI (sh.take (k + 1)) ∧ r + zs.getD k 0 = sumI (zs.take (k + 1))) := ⟨by rw [take_sum (by omega), H.out.1], by rw [take_sum hlt, H.out.2]⟩
        have HM := Lib.hid (fun i (hi : i < zs.length) => And.intro (HMONO.out i k hi hlt) (HMONO.out k i hlt hi))
        obtain ⟨wk, hwk⟩ : ∃ wk, zs.getD k 0 = wk := ⟨_, rfl⟩
        obtain ⟨ak, hak⟩ : ∃ ak, sh.getD k 0 = ak := ⟨_, rfl⟩
        rw [hwk] at cwk hwm HN HM
        rw [hak] at cak b0 b1 HN HM
        clear hwk hak H
        obtain ⟨wm0, wm1⟩ := hwm
        go_wp2_with (fail)
        go_loopw [11] (fun i wr => ∃ (j : Nat), j ≤ k ∧ i = .int .i64 j ∧ Dr w5 wr) (fun i _ => k - (intOf i).toNat)
        case atStart => exact ⟨0, Nat.zero_le _, rfl, hD⟩
        case round =>
         focus
          clear cwk cak hD
          obtain ⟨j, hj, rfl, hD⟩ := hrel
          have cwk := hD.cell (HOW.out.cell hlt).1
          have cak := hD.cell (HOA.out.cell (show k < sh.length by omega)).1
          by_cases hjk : j < k
          · have cwj := hD.cell (HOW.out.cell (show j < zs.length by omega)).1
            have caj := hD.cell (HOA.out.cell (show j < sh.length by omega)).1
            have hm := HMONO.out j k (by omega) hlt
            have hm2 := HMONO.out k j hlt (by omega)
            generalize zs.getD k 0 = wk' at cwk hm hm2
            generalize sh.getD k 0 = ak' at cak hm hm2
            generalize zs.getD j 0 = wj at cwj hm hm2
            generalize sh.getD j 0 = aj at caj hm hm2
            have qj : (j : Int) < (zs.length : Int) := by omega
            have qk : (k : Int) < (zs.length : Int) := by omega
            have qjk : (j : Int) < (k : Int) := by omega
            clear HM HN
            rcases Int.lt_trichotomy wk' wj with h1 | h1 | h1
            · have h2 := hm h1
              have d1 : decide (wk' < wj) = true := decide_eq_true h1
              have d2 : decide (aj < ak') = false := decide_eq_false (by omega)
              have d3 : decide (wj < wk') = false := decide_eq_false (by omega)
              clear hm hm2 h2 h1
              go_wp2
              go_quiet (fail)
              go_wp2
              exact ⟨⟨j + 1, by omega, by go_num, hD.next _⟩, by simp [intOf]; omega⟩
            · have d1 : decide (wk' < wj) = false := decide_eq_false (by omega)
              have d3 : decide (wj < wk') = false := decide_eq_false (by omega)
              clear hm hm2 h1
              go_wp2
              go_quiet (fail)
              go_wp2
              exact ⟨⟨j + 1, by omega, by go_num, hD.next _⟩, by simp [intOf]; omega⟩
            · have h2 := hm2 h1
              have d1 : decide (wk' < wj) = false := decide_eq_false (by omega)
              have d2 : decide (ak' < aj) = false := decide_eq_false (by omega)
              have d3 : decide (wj < wk') = true := decide_eq_true h1
              clear hm hm2 h2 h1
              go_wp2
              go_quiet (fail)
              go_wp2
              exact ⟨⟨j + 1, by omega, by go_num, hD.next _⟩, by simp [intOf]; omega⟩
          · go_wp2_with (fail)
            exact ⟨⟨k + 1, q + ak, r + wk, by omega, by go_num, rfl, rfl, by omega, by omega, by omega, by omega, hD, HN.out⟩, by simp [intOf]; omega⟩
      · obtain rfl : k = zs.length := by omega
        obtain ⟨h1, h2⟩ := H.out
        rw [show sh.take zs.length = sh by rw [← hal, List.take_length], HSUM.out] at h1
        rw [List.take_length] at h2
        subst h1
        have hT2 : 0 < r ∧ r ≤ 20000 := by omega
        obtain ⟨t0, t1⟩ := hT2
        have HB3 : Hid (∀ k, k < zs.length → 0 ≤ sh.getD k 0 ∧ sh.getD k 0 ≤ 1000000001 ∧ sh.getD k 0 * r ≤ q * zs.getD k 0 + r ∧ q * zs.getD k 0 - r ≤ sh.getD k 0 * r) := by
          rw [h2]
          exact HBND.out
        clear h2 H q1 r1 HBND HMONO HSUM hT
        go_wp2_with (fail)
        go_loopw [12] (fun i wr => ∃ (k : Nat), k ≤ zs.length ∧ i = .int .i64 k ∧ Dr w5 wr) (fun i _ => zs.length - (intOf i).toNat)
        case atStart => exact ⟨0, Nat.zero_le _, rfl, hD⟩
        case round =>
         focus
          clear hD
          obtain ⟨k, hk, rfl, hD⟩ := hrel
          by_cases hlt : k < zs.length
          · have cwk := hD.cell (HOW.out.cell hlt).1
            have cak := hD.cell (HOA.out.cell (show k < sh.length by omega)).1
            have hwm := HZM.out _ (show zs.getD k 0 ∈ zs by rw [getD_lt hlt]; exact List.getElem_mem hlt)
            have hb := HB3.out k hlt
            generalize zs.getD k 0 = wk at cwk hwm hb
            generalize sh.getD k 0 = ak at cak hb
            obtain ⟨b0, b1, b2, b3⟩ := hb
            have hm1 : 0 ≤ ak * r := Int.mul_nonneg b0 (by omega)
            have hm2 : ak * r ≤ 1000000001 * 20000 := Int.mul_le_mul b1 t1 (by omega) (by omega)
            have hm3 : 0 ≤ q * wk := Int.mul_nonneg q0 hwm.1
            have hm4 : q * wk ≤ 1000000 * 1000 := Int.mul_le_mul hs1 hwm.2 hwm.1 (by omega)
            have hx1 : IntKind.i64.wrap (ak * r) = ak * r := IntWalk.i64_in _ (by omega)
            have hx2 : IntKind.i64.wrap (q * wk) = q * wk := IntWalk.i64_in _ (by omega)
            have hx3 : IntKind.i64.wrap (q * wk + r) = q * wk + r := IntWalk.i64_in _ (by omega)
            have hx4 : IntKind.i64.wrap (q * wk - r) = q * wk - r := IntWalk.i64_in _ (by omega)
            have d1 : decide (q * wk + r < ak * r) = false := decide_eq_false (by omega)
            have d2 : decide (ak * r < q * wk - r) = false := decide_eq_false (by omega)
            have qk : (k : Int) < (zs.length : Int) := by omega
            clear hwm
            go_wp2
            go_quiet (fail)
            go_wp2
            exact ⟨⟨k + 1, by omega, by go_num, hD.next _⟩, by simp [intOf]; omega⟩
          · go_wp2_with (fail)
            go_loopw [13, 14] (fun a i wr => ∃ (k : Nat) (x : Int), k ≤ es.length ∧ i = .int .i64 k ∧ a = .int .i64 x ∧ 0 ≤ x ∧ x ≤ 1000000 * k ∧ Dr w5 wr ∧ Hid (x = sumI (es.take k))) (fun _ i _ => es.length - (intOf i).toNat)
            case atStart => exact ⟨0, 0, Nat.zero_le _, rfl, rfl, by omega, by omega, hD, rfl⟩
            case round =>
             focus
              clear hD
              obtain ⟨k, x, hk, rfl, rfl, x0, x1, hD, H⟩ := hrel
              by_cases hlt : k < es.length
              · have cek := hD.cell (HOE.out.cell hlt).1
                have hem := HEB.out _ (show es.getD k 0 ∈ es by rw [getD_lt hlt]; exact List.getElem_mem hlt)
                have HN : Hid (x + es.getD k 0 = sumI (es.take (k + 1))) := by show _ = _; rw [take_sum hlt, H.out]
                generalize es.getD k 0 = ek at cek hem HN
                obtain ⟨e0, e1⟩ := hem
                have qk : (k : Int) < nn := by omega
                clear H
                go_wp2_with (fail)
                exact ⟨⟨k + 1, x + ek, by omega, by go_num, rfl, by omega, by omega, hD, HN.out⟩, by simp [intOf]; omega⟩
              · have h1 := H.out
                rw [List.take_of_length_le (by omega), HES.out] at h1
                subst h1
                clear H x1
                have oe := HOE.out.below hD.below
                have hr := HR.out.below hD.below
                replace hB := bvia hB hD.below
                clear HOW HOA HOE HR hD
                go_wp2_with (fail)
                refine (at_any n 1 (by omega) (by omega) _ _ _ hr).mono ?_
                rintro e w7 ⟨y, rfl, y0, y1, hd⟩
                have hb := hd.below; clear hd
                replace oe := oe.below hb
                replace hr := hr.below hb
                replace hB := bvia hB hb
                clear hb
                obtain ⟨p, hp⟩ : ∃ p, y % 101 = p := ⟨_, rfl⟩
                have hp100 : 0 ≤ p ∧ p ≤ 100 := by omega
                have HKB := Lib.hid (fun w => implKeepBack_any x p w)
                obtain ⟨kf1, kf2, kf3, kf4, kf5⟩ := keep_facts ⟨q0, hs1⟩ hp100
                go_wp2_with (fail)
                try simp only [hp]
                clear y0 y1 hp
                refine (HKB.out _).mono ?_
                rintro e wp ⟨rfl, rfl⟩
                clear HKB
                have hgv : given x p = x - kept x p := by omega
                rw [hgv]
                clear hgv kf1
                generalize kept x p = kp at kf2 kf3 kf4 kf5 ⊢
                obtain ⟨gv, hgv⟩ : ∃ g, x - kp = g := ⟨_, rfl⟩
                have hg0 : kp + gv = x := by omega
                have hg1 : IntKind.i64.wrap (kp + gv) = x := by rw [hg0]; exact IntWalk.i64_in _ (by omega)
                rw [hgv]
                clear hgv hg0
                obtain ⟨hp0, hp1⟩ := hp100
                have hrB : RdB w7 w7.heap.size v n := hr.up hB.size
                go_wp2_with (fail)
                refine (drawCues_any n _ _ hrB).mono ?_
                rintro e w8 ⟨ul, rfl, cs, rl, hDC, hlc, hb⟩
                replace oe := oe.below hb
                replace hB := bvia hB hb
                clear hb hr hrB
                have hcok := hDC.ok hlc
                obtain ⟨htall, htbd⟩ := ticks_all hcok
                have HTALL := Lib.hid htall
                have HTBD := Lib.hid htbd
                clear htall htbd hDC hlc
                obtain ⟨al, cl, rfl, _⟩ := rl.shape
                have hgl := below_alloc1 w8 (.cells #[.int .i64 0, .int .i64 1, .int .i64 2, .int .i64 3, .int .i64 4, .int .i64 5, .int .i64 6] 3)
                have HRL : Hid (RdI (w8.alloc (.cells #[.int .i64 0, .int .i64 1, .int .i64 2, .int .i64 3, .int .i64 4, .int .i64 5, .int .i64 6] 3)) (.slice (some ⟨w8.heap.size, 0, none⟩) 7 7) all7) :=
                  rd_alloc w8 #[.int .i64 0, .int .i64 1, .int .i64 2, .int .i64 3, .int .i64 4, .int .i64 5, .int .i64 6] 3 7 (by decide)
                replace rl := rl.below hgl
                replace oe := oe.below hgl
                replace hB := bvia hB hgl
                clear hgl
                go_wp2_with (fail)
                refine (implTicksPlayed_any cs all7 _ _ _ rl HRL.out).mono ?_
                rintro e w9 ⟨rfl, hb⟩
                replace rl := rl.below hb
                replace oe := oe.below hb
                replace hB := bvia hB hb
                clear hb HRL
                have HS := Lib.hid (And.intro rl (And.intro oe hB))
                have ht0 := (HTBD.out all7).1
                have ht1 := (HTBD.out all7).2
                rw [HTALL.out] at ht0 ht1 ⊢
                rw [← psum_7] at ht0 ht1 ⊢
                clear rl oe hB
                go_wp2_with (fail)
                go_loopw [20, 21] (fun a i wr => ∃ (k : Nat), k ≤ 7 ∧ i = .int .i64 k ∧ a = .int .i64 (psum (fun k => ticksF cs [k]) k) ∧ 0 ≤ psum (fun k => ticksF cs [k]) k ∧ psum (fun k => ticksF cs [k]) k ≤ 4200 * k ∧ Hid (RdCue wr (.slice al cs.length cl) cs ∧ OwI wr w.heap.size (.slice (some ⟨ge, 0, none⟩) es.length ce) es ∧ Below w.heap.size w wr)) (fun _ i _ => 7 - (intOf i).toNat)
                case atStart => exact ⟨0, by omega, rfl, rfl, Int.le_refl _, Int.le_refl _, HS.out.1, HS.out.2.1.base HW4, HS.out.2.2⟩
                case round =>
                 focus
                  clear HS
                  obtain ⟨k, hk, rfl, rfl, p0, p1, HI⟩ := hrel
                  by_cases hk7 : k < 7
                  · obtain ⟨rl, oe, hB⟩ := HI.out
                    clear HI
                    have hgl := below_alloc1 wr (.cells #[.int .i64 (k : Int)] 3)
                    have hlit := rdI_one wr (k : Int)
                    have htk := HTBD.out [(k : Int)]
                    have HPS : Hid (psum (fun k => ticksF cs [k]) (k + 1) = psum (fun k => ticksF cs [k]) k + ticksF cs [(k : Int)]) := rfl
                    have HTK := Lib.hid (fun w v u h hp => implTicksPlayed_any cs [(k : Int)] v u w h hp)
                    generalize ticksF cs [(k : Int)] = tk at htk HPS HTK
                    obtain ⟨tk0, tk1⟩ := htk
                    replace rl := rl.below hgl
                    replace oe := oe.below hgl
                    replace hB := bvia hB hgl
                    clear hgl
                    generalize psum (fun k => ticksF cs [k]) k = ps at p0 p1 HPS ⊢
                    go_wp2_with (fail)
                    refine (HTK.out _ _ _ rl hlit).mono ?_
                    rintro e w11 ⟨rfl, hb⟩
                    replace rl := rl.below hb
                    replace oe := oe.below hb
                    replace hB := bvia hB hb
                    clear hb hlit HTK
                    go_wp2_with (fail)
                    exact ⟨⟨k + 1, by omega, by go_num, by rw [HPS.out], by rw [HPS.out]; omega, by rw [HPS.out]; omega, rl, oe, hB⟩, by simp [intOf]; omega⟩
                  · obtain rfl : k = 7 := by omega
                    obtain ⟨rl, oe, hB⟩ := HI.out
                    clear HI rl HTALL HTBD
                    generalize psum (fun k => ticksF cs [k]) 7 = tt at p0 p1 ht0 ht1 ⊢
                    have hb0 : 0 ≤ x * p := Int.mul_nonneg q0 hp0
                    have hb1 : x * p ≤ 1000000 * 100 := Int.mul_le_mul hs1 hp1 hp0 (by omega)
                    have wr1 : IntKind.i64.wrap (x * p) = x * p := IntWalk.i64_in _ (by omega)
                    have wr2 : IntKind.i64.wrap (100 * kp) = 100 * kp := IntWalk.i64_in _ (by omega)
                    have wr3 : IntKind.i64.wrap (x * p + 100) = x * p + 100 := IntWalk.i64_in _ (by omega)
                    have nn0 : nn ≠ 0 := by omega
                    have md1 : x.tmod nn = x % nn := Int.tmod_eq_emod_of_nonneg q0
                    have md2 : IntKind.i64.wrap (x % nn) = x % nn := IntWalk.i64_in _ (by have := Int.emod_nonneg x nn0; have := Int.emod_lt_of_pos x (show 0 < nn by omega); omega)
                    obtain ⟨fv, hfv⟩ : ∃ f : Int, (if 0 < x % nn then 1 else 0) = f := ⟨_, rfl⟩
                    obtain ⟨bz, hbz⟩ : ∃ b : Bool, decide (0 < x % nn) = b := ⟨_, rfl⟩
                    have HBT : Hid (∀ w, Calls Try.prog 14 #[.bool bz] w fun e w' => e = .returned (.int .i64 fv) ∧ w = w') := by
                      intro w
                      have h := btoi_any bz w
                      have he : (if bz = true then (1 : Int) else 0) = fv := by
                        rw [← hfv, ← hbz]
                        by_cases h0 : 0 < x % nn
                        · rw [if_pos h0, if_pos (decide_eq_true h0)]
                        · rw [if_neg h0, if_neg (by simpa using h0)]
                      rw [he] at h
                      exact h
                    have HF39 : Hid (∀ v w, RdI w v [3, 9] → Calls Try.prog 13 #[v] w fun e w' => e = .returned (.int .i64 6) ∧ Dr w w') := fun v w h => by
                      have h := implFairnessOf_any [3, 9] v w h
                      rw [fair_39] at h
                      exact h
                    rw [hfv] at HFA
                    clear hfv
                    have d1 : decide (100 * kp < x * p) = false := decide_eq_false (by omega)
                    have d2 : decide (x * p ≤ 100 * kp) = true := decide_eq_true (by omega)
                    have d3 : decide (100 * kp < x * p + 100) = true := decide_eq_true (by omega)
                    have d4 : decide (0 ≤ tt) = true := decide_eq_true p0
                    have d5 : decide (tt < 0) = false := decide_eq_false (by omega)
                    go_wp2_with (fail)
                    replace hB := hB.drew
                    replace oe := oe.drew
                    with_reducible refine region_beg (n := 57) (S := (fun _ => True)) ?b1_u1 ?b2_u1 ?b3_u1 (fun hHeld => ?b4_u1)
                    case b1_u1 => kernel_rfl
                    case b2_u1 => kernel_rfl
                    case b3_u1 => exact trivial
                    with_reducible refine takeI2 (i := 0) (v := ?sv_u2) (oi := ?s0_u2) (by simp only [List.getElem?_toArray, List.getElem?_cons_succ, List.getElem?_cons_zero]; exact rfl) ?s1_u2 ?s2_u2 ?s3_u2 ?s4_u2 ?s5_u2 ?s6_u2 ?s7_u2
                    case s1_u2 => kernel_rfl
                    case s2_u2 => kernel_rfl
                    case s3_u2 => kernel_rfl
                    case s4_u2 => exact fun _ _ _ h => h
                    case s5_u2 => exact Or.inl ⟨rfl, by intro w hSw; (try dsimp only at hSw); go_simp; try with_reducible rfl⟩
                    case s6_u2 => assumption
                    try simp only [Act.put, List.setIfInBounds_toArray, List.set_cons_zero, List.set_cons_succ]
                    with_reducible refine takeI2 (i := 1) (v := ?sv_u3) (oi := ?s0_u3) (by simp only [List.getElem?_toArray, List.getElem?_cons_succ, List.getElem?_cons_zero]; exact rfl) ?s1_u3 ?s2_u3 ?s3_u3 ?s4_u3 ?s5_u3 ?s6_u3 ?s7_u3
                    case s1_u3 => kernel_rfl
                    case s2_u3 => kernel_rfl
                    case s3_u3 => kernel_rfl
                    case s4_u3 => exact fun _ _ _ h => h
                    case s5_u3 => exact Or.inl ⟨rfl, by intro w hSw; (try dsimp only at hSw); go_simp; try with_reducible rfl⟩
                    case s6_u3 => assumption
                    try simp only [Act.put, List.setIfInBounds_toArray, List.set_cons_zero, List.set_cons_succ]
                    with_reducible refine takeI2 (i := 2) (v := ?sv_u4) (oi := ?s0_u4) (by simp only [List.getElem?_toArray, List.getElem?_cons_succ, List.getElem?_cons_zero]; exact rfl) ?s1_u4 ?s2_u4 ?s3_u4 ?s4_u4 ?s5_u4 ?s6_u4 ?s7_u4
                    case s1_u4 => kernel_rfl
                    case s2_u4 => kernel_rfl
                    case s3_u4 => kernel_rfl
                    case s4_u4 => exact fun _ _ _ h => h
                    case s5_u4 => exact Or.inl ⟨rfl, by intro w hSw; (try dsimp only at hSw); go_simp; try with_reducible rfl⟩
                    case s6_u4 => assumption
                    try simp only [Act.put, List.setIfInBounds_toArray, List.set_cons_zero, List.set_cons_succ]
                    with_reducible refine takeI2 (i := 3) (v := ?sv_u5) (oi := ?s0_u5) (by simp only [List.getElem?_toArray, List.getElem?_cons_succ, List.getElem?_cons_zero]; exact rfl) ?s1_u5 ?s2_u5 ?s3_u5 ?s4_u5 ?s5_u5 ?s6_u5 ?s7_u5
                    case s1_u5 => kernel_rfl
                    case s2_u5 => kernel_rfl
                    case s3_u5 => kernel_rfl
                    case s4_u5 => exact fun _ _ _ h => h
                    case s5_u5 => exact Or.inl ⟨rfl, by intro w hSw; (try dsimp only at hSw); go_simp; try with_reducible rfl⟩
                    case s6_u5 => assumption
                    try simp only [Act.put, List.setIfInBounds_toArray, List.set_cons_zero, List.set_cons_succ]
                    with_reducible refine takeI2 (i := 4) (v := ?sv_u6) (oi := ?s0_u6) (by simp only [List.getElem?_toArray, List.getElem?_cons_succ, List.getElem?_cons_zero]; exact rfl) ?s1_u6 ?s2_u6 ?s3_u6 ?s4_u6 ?s5_u6 ?s6_u6 ?s7_u6
                    case s1_u6 => kernel_rfl
                    case s2_u6 => kernel_rfl
                    case s3_u6 => kernel_rfl
                    case s4_u6 => exact fun _ _ _ h => h
                    case s5_u6 => exact Or.inl ⟨rfl, by intro w hSw; (try dsimp only at hSw); go_simp; try with_reducible rfl⟩
                    case s6_u6 => assumption
                    try simp only [Act.put, List.setIfInBounds_toArray, List.set_cons_zero, List.set_cons_succ]
                    with_reducible refine takeI2 (i := 5) (v := ?sv_u7) (oi := ?s0_u7) (by simp only [List.getElem?_toArray, List.getElem?_cons_succ, List.getElem?_cons_zero]; exact rfl) ?s1_u7 ?s2_u7 ?s3_u7 ?s4_u7 ?s5_u7 ?s6_u7 ?s7_u7
                    case s1_u7 => kernel_rfl
                    case s2_u7 => kernel_rfl
                    case s3_u7 => kernel_rfl
                    case s4_u7 => exact fun _ _ _ h => h
                    case s5_u7 => exact Or.inl ⟨rfl, by intro w hSw; (try dsimp only at hSw); go_simp; try with_reducible rfl⟩
                    case s6_u7 => assumption
                    try simp only [Act.put, List.setIfInBounds_toArray, List.set_cons_zero, List.set_cons_succ]
                    with_reducible refine takeI2 (i := 6) (v := ?sv_u8) (oi := ?s0_u8) (by simp only [List.getElem?_toArray, List.getElem?_cons_succ, List.getElem?_cons_zero]; exact rfl) ?s1_u8 ?s2_u8 ?s3_u8 ?s4_u8 ?s5_u8 ?s6_u8 ?s7_u8
                    case s1_u8 => kernel_rfl
                    case s2_u8 => kernel_rfl
                    case s3_u8 => kernel_rfl
                    case s4_u8 => exact fun _ _ _ h => h
                    case s5_u8 => exact Or.inl ⟨rfl, by intro w hSw; (try dsimp only at hSw); go_simp; try with_reducible rfl⟩
                    case s6_u8 => assumption
                    try simp only [Act.put, List.setIfInBounds_toArray, List.set_cons_zero, List.set_cons_succ]
                    with_reducible refine takeI2 (i := 7) (v := ?sv_u9) (oi := ?s0_u9) (by simp only [List.getElem?_toArray, List.getElem?_cons_succ, List.getElem?_cons_zero]; exact rfl) ?s1_u9 ?s2_u9 ?s3_u9 ?s4_u9 ?s5_u9 ?s6_u9 ?s7_u9
                    case s1_u9 => kernel_rfl
                    case s2_u9 => kernel_rfl
                    case s3_u9 => kernel_rfl
                    case s4_u9 => exact fun _ _ _ h => h
                    case s5_u9 => exact Or.inl ⟨rfl, by intro w hSw; (try dsimp only at hSw); go_simp; try with_reducible rfl⟩
                    case s6_u9 => assumption
                    try simp only [Act.put, List.setIfInBounds_toArray, List.set_cons_zero, List.set_cons_succ]
                    with_reducible refine takeI2 (i := 8) (v := ?sv_u10) (oi := ?s0_u10) (by simp only [List.getElem?_toArray, List.getElem?_cons_succ, List.getElem?_cons_zero]; exact rfl) ?s1_u10 ?s2_u10 ?s3_u10 ?s4_u10 ?s5_u10 ?s6_u10 ?s7_u10
                    case s1_u10 => kernel_rfl
                    case s2_u10 => kernel_rfl
                    case s3_u10 => kernel_rfl
                    case s4_u10 => exact fun _ _ _ h => h
                    case s5_u10 => exact Or.inl ⟨rfl, by intro w hSw; (try dsimp only at hSw); go_simp; try with_reducible rfl⟩
                    case s6_u10 => assumption
                    try simp only [Act.put, List.setIfInBounds_toArray, List.set_cons_zero, List.set_cons_succ]
                    with_reducible refine takeI2 (i := 9) (v := ?sv_u11) (oi := ?s0_u11) (by simp only [List.getElem?_toArray, List.getElem?_cons_succ, List.getElem?_cons_zero]; exact rfl) ?s1_u11 ?s2_u11 ?s3_u11 ?s4_u11 ?s5_u11 ?s6_u11 ?s7_u11
                    case s1_u11 => kernel_rfl
                    case s2_u11 => kernel_rfl
                    case s3_u11 => kernel_rfl
                    case s4_u11 => exact fun _ _ _ h => h
                    case s5_u11 => exact Or.inl ⟨rfl, by intro w hSw; (try dsimp only at hSw); go_simp; try with_reducible rfl⟩
                    case s6_u11 => assumption
                    try simp only [Act.put, List.setIfInBounds_toArray, List.set_cons_zero, List.set_cons_succ]
                    with_reducible refine takeI2 (i := 11) (v := ?sv_u12) (oi := ?s0_u12) (by simp only [List.getElem?_toArray, List.getElem?_cons_succ, List.getElem?_cons_zero]; exact rfl) ?s1_u12 ?s2_u12 ?s3_u12 ?s4_u12 ?s5_u12 ?s6_u12 ?s7_u12
                    case s1_u12 => kernel_rfl
                    case s2_u12 => kernel_rfl
                    case s3_u12 => kernel_rfl
                    case s4_u12 => exact fun _ _ _ h => h
                    case s5_u12 => exact Or.inl ⟨rfl, by intro w hSw; (try dsimp only at hSw); go_simp; try with_reducible rfl⟩
                    case s6_u12 => assumption
                    try simp only [Act.put, List.setIfInBounds_toArray, List.set_cons_zero, List.set_cons_succ]
                    with_reducible refine takeI2 (i := 12) (v := ?sv_u13) (oi := ?s0_u13) (by simp only [List.getElem?_toArray, List.getElem?_cons_succ, List.getElem?_cons_zero]; exact rfl) ?s1_u13 ?s2_u13 ?s3_u13 ?s4_u13 ?s5_u13 ?s6_u13 ?s7_u13
                    case s1_u13 => kernel_rfl
                    case s2_u13 => kernel_rfl
                    case s3_u13 => kernel_rfl
                    case s4_u13 => exact fun _ _ _ h => h
                    case s5_u13 => exact Or.inl ⟨rfl, by intro w hSw; (try dsimp only at hSw); go_simp; try with_reducible rfl⟩
                    case s6_u13 => assumption
                    try simp only [Act.put, List.setIfInBounds_toArray, List.set_cons_zero, List.set_cons_succ]
                    with_reducible refine takeI2 (i := 13) (v := ?sv_u14) (oi := ?s0_u14) (by simp only [List.getElem?_toArray, List.getElem?_cons_succ, List.getElem?_cons_zero]; exact rfl) ?s1_u14 ?s2_u14 ?s3_u14 ?s4_u14 ?s5_u14 ?s6_u14 ?s7_u14
                    case s1_u14 => kernel_rfl
                    case s2_u14 => kernel_rfl
                    case s3_u14 => kernel_rfl
                    case s4_u14 => exact fun _ _ _ h => h
                    case s5_u14 => exact Or.inl ⟨rfl, by intro w hSw; (try dsimp only at hSw); go_simp; try with_reducible rfl⟩
                    case s6_u14 => assumption
                    try simp only [Act.put, List.setIfInBounds_toArray, List.set_cons_zero, List.set_cons_succ]
                    with_reducible refine takeI2 (i := 14) (v := ?sv_u15) (oi := ?s0_u15) (by simp only [List.getElem?_toArray, List.getElem?_cons_succ, List.getElem?_cons_zero]; exact rfl) ?s1_u15 ?s2_u15 ?s3_u15 ?s4_u15 ?s5_u15 ?s6_u15 ?s7_u15
                    case s1_u15 => kernel_rfl
                    case s2_u15 => kernel_rfl
                    case s3_u15 => kernel_rfl
                    case s4_u15 => exact fun _ _ _ h => h
                    case s5_u15 => exact Or.inl ⟨rfl, by intro w hSw; (try dsimp only at hSw); go_simp; try with_reducible rfl⟩
                    case s6_u15 => assumption
                    try simp only [Act.put, List.setIfInBounds_toArray, List.set_cons_zero, List.set_cons_succ]
                    with_reducible refine wpAnyH_ready (rs := [10]) ?s1_u16 one_ne ?s2_u16
                    case s1_u16 => kernel_rfl
                    with_reducible refine AllReadyH.cons (o := ?s0_u16) (by simp only [List.getElem?_toArray, List.getElem?_cons_succ, List.getElem?_cons_zero]; exact rfl) (fun K hK => ?s3_u16) AllReadyH.nil
                    go_simp
                    go_at_call 13; (refine (HFA.out _ _ oe.rd).mono ?_; rintro e w1 ⟨rfl, hd⟩; have hb1 := hd.below; clear hd; replace hB := bvia hB hb1; replace oe := oe.below hb1; clear hb1)
                    go_wp2_with fail
                    with_reducible refine hK.out _ _ ?s1_u17 (fun hHeld => ?s2_u17)
                    case s1_u17 => exact trivial
                    clear hK K
                    try simp only [Act.put, List.setIfInBounds_toArray, List.set_cons_zero, List.set_cons_succ]
                    with_reducible refine wpAnyH_ready (rs := [15]) ?s1_u18 one_ne ?s2_u18
                    case s1_u18 => kernel_rfl
                    with_reducible refine AllReadyH.cons (o := ?s0_u18) (by simp only [List.getElem?_toArray, List.getElem?_cons_succ, List.getElem?_cons_zero]; exact rfl) (fun K hK => ?s3_u18) AllReadyH.nil
                    go_simp
                    go_at_call 14; (refine (HBT.out _).mono ?_; rintro e w1 ⟨rfl, rfl⟩)
                    go_wp2_with fail
                    with_reducible refine hK.out _ _ ?s1_u19 (fun hHeld => ?s2_u19)
                    case s1_u19 => exact trivial
                    clear hK K
                    try simp only [Act.put, List.setIfInBounds_toArray, List.set_cons_zero, List.set_cons_succ]
                    with_reducible refine takeI2 (i := 16) (v := ?sv_u20) (oi := ?s0_u20) (by simp only [List.getElem?_toArray, List.getElem?_cons_succ, List.getElem?_cons_zero]; exact rfl) ?s1_u20 ?s2_u20 ?s3_u20 ?s4_u20 ?s5_u20 ?s6_u20 ?s7_u20
                    case s1_u20 => kernel_rfl
                    case s2_u20 => kernel_rfl
                    case s3_u20 => kernel_rfl
                    case s4_u20 => exact fun _ _ _ h => h
                    case s5_u20 => exact Or.inl ⟨rfl, by intro w hSw; (try dsimp only at hSw); go_simp; try with_reducible rfl⟩
                    case s6_u20 => assumption
                    try simp only [Act.put, List.setIfInBounds_toArray, List.set_cons_zero, List.set_cons_succ]
                    with_reducible refine takeI2 (i := 17) (v := ?sv_u21) (oi := ?s0_u21) (by simp only [List.getElem?_toArray, List.getElem?_cons_succ, List.getElem?_cons_zero]; exact rfl) ?s1_u21 ?s2_u21 ?s3_u21 ?s4_u21 ?s5_u21 ?s6_u21 ?s7_u21
                    case s1_u21 => kernel_rfl
                    case s2_u21 => kernel_rfl
                    case s3_u21 => kernel_rfl
                    case s4_u21 => exact fun _ _ _ h => h
                    case s5_u21 => exact Or.inl ⟨rfl, by intro w hSw; (try dsimp only at hSw); go_simp; try with_reducible rfl⟩
                    case s6_u21 => assumption
                    try simp only [Act.put, List.setIfInBounds_toArray, List.set_cons_zero, List.set_cons_succ]
                    with_reducible refine takeI2 (i := 18) (v := ?sv_u22) (oi := ?s0_u22) (by simp only [List.getElem?_toArray, List.getElem?_cons_succ, List.getElem?_cons_zero]; exact rfl) ?s1_u22 ?s2_u22 ?s3_u22 ?s4_u22 ?s5_u22 ?s6_u22 ?s7_u22
                    case s1_u22 => kernel_rfl
                    case s2_u22 => kernel_rfl
                    case s3_u22 => kernel_rfl
                    case s4_u22 => exact fun _ _ _ h => h
                    case s5_u22 => exact Or.inl ⟨rfl, by intro w hSw; (try dsimp only at hSw); go_simp; try with_reducible rfl⟩
                    case s6_u22 => assumption
                    try simp only [Act.put, List.setIfInBounds_toArray, List.set_cons_zero, List.set_cons_succ]
                    with_reducible refine takeI2 (i := 19) (v := ?sv_u23) (oi := ?s0_u23) (by simp only [List.getElem?_toArray, List.getElem?_cons_succ, List.getElem?_cons_zero]; exact rfl) ?s1_u23 ?s2_u23 ?s3_u23 ?s4_u23 ?s5_u23 ?s6_u23 ?s7_u23
                    case s1_u23 => kernel_rfl
                    case s2_u23 => kernel_rfl
                    case s3_u23 => kernel_rfl
                    case s4_u23 => exact fun _ _ _ h => h
                    case s5_u23 => exact Or.inl ⟨rfl, by intro w hSw; (try dsimp only at hSw); go_simp; try with_reducible rfl⟩
                    case s6_u23 => assumption
                    try simp only [Act.put, List.setIfInBounds_toArray, List.set_cons_zero, List.set_cons_succ]
                    with_reducible refine takeI2 (i := 20) (v := ?sv_u24) (oi := ?s0_u24) (by simp only [List.getElem?_toArray, List.getElem?_cons_succ, List.getElem?_cons_zero]; exact rfl) ?s1_u24 ?s2_u24 ?s3_u24 ?s4_u24 ?s5_u24 ?s6_u24 ?s7_u24
                    case s1_u24 => kernel_rfl
                    case s2_u24 => kernel_rfl
                    case s3_u24 => kernel_rfl
                    case s4_u24 => exact fun _ _ _ h => h
                    case s5_u24 => exact Or.inl ⟨rfl, by intro w hSw; (try dsimp only at hSw); go_simp; try with_reducible rfl⟩
                    case s6_u24 => assumption
                    try simp only [Act.put, List.setIfInBounds_toArray, List.set_cons_zero, List.set_cons_succ]
                    with_reducible refine takeI2 (i := 21) (v := ?sv_u25) (oi := ?s0_u25) (by simp only [List.getElem?_toArray, List.getElem?_cons_succ, List.getElem?_cons_zero]; exact rfl) ?s1_u25 ?s2_u25 ?s3_u25 ?s4_u25 ?s5_u25 ?s6_u25 ?s7_u25
                    case s1_u25 => kernel_rfl
                    case s2_u25 => kernel_rfl
                    case s3_u25 => kernel_rfl
                    case s4_u25 => exact fun _ _ _ h => h
                    case s5_u25 => exact Or.inl ⟨rfl, by intro w hSw; (try dsimp only at hSw); go_simp; try with_reducible rfl⟩
                    case s6_u25 => assumption
                    try simp only [Act.put, List.setIfInBounds_toArray, List.set_cons_zero, List.set_cons_succ]
                    with_reducible refine takeI2 (i := 22) (v := ?sv_u26) (oi := ?s0_u26) (by simp only [List.getElem?_toArray, List.getElem?_cons_succ, List.getElem?_cons_zero]; exact rfl) ?s1_u26 ?s2_u26 ?s3_u26 ?s4_u26 ?s5_u26 ?s6_u26 ?s7_u26
                    case s1_u26 => kernel_rfl
                    case s2_u26 => kernel_rfl
                    case s3_u26 => kernel_rfl
                    case s4_u26 => exact fun _ _ _ h => h
                    case s5_u26 => exact Or.inl ⟨rfl, by intro w hSw; (try dsimp only at hSw); go_simp; try with_reducible rfl⟩
                    case s6_u26 => assumption
                    try simp only [Act.put, List.setIfInBounds_toArray, List.set_cons_zero, List.set_cons_succ]
                    with_reducible refine takeI2 (i := 23) (v := ?sv_u27) (oi := ?s0_u27) (by simp only [List.getElem?_toArray, List.getElem?_cons_succ, List.getElem?_cons_zero]; exact rfl) ?s1_u27 ?s2_u27 ?s3_u27 ?s4_u27 ?s5_u27 ?s6_u27 ?s7_u27
                    case s1_u27 => kernel_rfl
                    case s2_u27 => kernel_rfl
                    case s3_u27 => kernel_rfl
                    case s4_u27 => exact fun _ _ _ h => h
                    case s5_u27 => exact Or.inl ⟨rfl, by intro w hSw; (try dsimp only at hSw); go_simp; try with_reducible rfl⟩
                    case s6_u27 => assumption
                    try simp only [Act.put, List.setIfInBounds_toArray, List.set_cons_zero, List.set_cons_succ]
                    with_reducible refine takeI2 (i := 24) (v := ?sv_u28) (oi := ?s0_u28) (by simp only [List.getElem?_toArray, List.getElem?_cons_succ, List.getElem?_cons_zero]; exact rfl) ?s1_u28 ?s2_u28 ?s3_u28 ?s4_u28 ?s5_u28 ?s6_u28 ?s7_u28
                    case s1_u28 => kernel_rfl
                    case s2_u28 => kernel_rfl
                    case s3_u28 => kernel_rfl
                    case s4_u28 => exact fun _ _ _ h => h
                    case s5_u28 => exact Or.inl ⟨rfl, by intro w hSw; (try dsimp only at hSw); go_simp; try with_reducible rfl⟩
                    case s6_u28 => assumption
                    try simp only [Act.put, List.setIfInBounds_toArray, List.set_cons_zero, List.set_cons_succ]
                    with_reducible refine takeI2 (i := 25) (v := ?sv_u29) (oi := ?s0_u29) (by simp only [List.getElem?_toArray, List.getElem?_cons_succ, List.getElem?_cons_zero]; exact rfl) ?s1_u29 ?s2_u29 ?s3_u29 ?s4_u29 ?s5_u29 ?s6_u29 ?s7_u29
                    case s1_u29 => kernel_rfl
                    case s2_u29 => kernel_rfl
                    case s3_u29 => kernel_rfl
                    case s4_u29 => exact fun _ _ _ h => h
                    case s5_u29 => exact Or.inl ⟨rfl, by intro w hSw; (try dsimp only at hSw); go_simp; try with_reducible rfl⟩
                    case s6_u29 => assumption
                    try simp only [Act.put, List.setIfInBounds_toArray, List.set_cons_zero, List.set_cons_succ]
                    with_reducible refine takeI2 (i := 26) (v := ?sv_u30) (oi := ?s0_u30) (by simp only [List.getElem?_toArray, List.getElem?_cons_succ, List.getElem?_cons_zero]; exact rfl) ?s1_u30 ?s2_u30 ?s3_u30 ?s4_u30 ?s5_u30 ?s6_u30 ?s7_u30
                    case s1_u30 => kernel_rfl
                    case s2_u30 => kernel_rfl
                    case s3_u30 => kernel_rfl
                    case s4_u30 => exact fun _ _ _ h => h
                    case s5_u30 => exact Or.inl ⟨rfl, by intro w hSw; (try dsimp only at hSw); go_simp; try with_reducible rfl⟩
                    case s6_u30 => assumption
                    try simp only [Act.put, List.setIfInBounds_toArray, List.set_cons_zero, List.set_cons_succ]
                    with_reducible refine takeI2 (i := 27) (v := ?sv_u31) (oi := ?s0_u31) (by simp only [List.getElem?_toArray, List.getElem?_cons_succ, List.getElem?_cons_zero]; exact rfl) ?s1_u31 ?s2_u31 ?s3_u31 ?s4_u31 ?s5_u31 ?s6_u31 ?s7_u31
                    case s1_u31 => kernel_rfl
                    case s2_u31 => kernel_rfl
                    case s3_u31 => kernel_rfl
                    case s4_u31 => exact fun _ _ _ h => h
                    case s5_u31 => exact Or.inl ⟨rfl, by intro w hSw; (try dsimp only at hSw); go_simp; try with_reducible rfl⟩
                    case s6_u31 => assumption
                    try simp only [Act.put, List.setIfInBounds_toArray, List.set_cons_zero, List.set_cons_succ]
                    with_reducible refine takeI2 (i := 28) (v := ?sv_u32) (oi := ?s0_u32) (by simp only [List.getElem?_toArray, List.getElem?_cons_succ, List.getElem?_cons_zero]; exact rfl) ?s1_u32 ?s2_u32 ?s3_u32 ?s4_u32 ?s5_u32 ?s6_u32 ?s7_u32
                    case s1_u32 => kernel_rfl
                    case s2_u32 => kernel_rfl
                    case s3_u32 => kernel_rfl
                    case s4_u32 => exact fun _ _ _ h => h
                    case s5_u32 => exact Or.inl ⟨rfl, by intro w hSw; (try dsimp only at hSw); go_simp; try with_reducible rfl⟩
                    case s6_u32 => assumption
                    try simp only [Act.put, List.setIfInBounds_toArray, List.set_cons_zero, List.set_cons_succ]
                    with_reducible refine takeI2 (i := 29) (v := ?sv_u33) (oi := ?s0_u33) (by simp only [List.getElem?_toArray, List.getElem?_cons_succ, List.getElem?_cons_zero]; exact rfl) ?s1_u33 ?s2_u33 ?s3_u33 ?s4_u33 ?s5_u33 ?s6_u33 ?s7_u33
                    case s1_u33 => kernel_rfl
                    case s2_u33 => kernel_rfl
                    case s3_u33 => kernel_rfl
                    case s4_u33 => exact fun _ _ _ h => h
                    case s5_u33 => exact Or.inl ⟨rfl, by intro w hSw; (try dsimp only at hSw); go_simp; try with_reducible rfl⟩
                    case s6_u33 => assumption
                    try simp only [Act.put, List.setIfInBounds_toArray, List.set_cons_zero, List.set_cons_succ]
                    with_reducible refine takeI2 (i := 30) (v := ?sv_u34) (oi := ?s0_u34) (by simp only [List.getElem?_toArray, List.getElem?_cons_succ, List.getElem?_cons_zero]; exact rfl) ?s1_u34 ?s2_u34 ?s3_u34 ?s4_u34 ?s5_u34 ?s6_u34 ?s7_u34
                    case s1_u34 => kernel_rfl
                    case s2_u34 => kernel_rfl
                    case s3_u34 => kernel_rfl
                    case s4_u34 => exact fun _ _ _ h => h
                    case s5_u34 => exact Or.inl ⟨rfl, by intro w hSw; (try dsimp only at hSw); go_simp; try with_reducible rfl⟩
                    case s6_u34 => assumption
                    try simp only [Act.put, List.setIfInBounds_toArray, List.set_cons_zero, List.set_cons_succ]
                    with_reducible refine takeI2 (i := 31) (v := ?sv_u35) (oi := ?s0_u35) (by simp only [List.getElem?_toArray, List.getElem?_cons_succ, List.getElem?_cons_zero]; exact rfl) ?s1_u35 ?s2_u35 ?s3_u35 ?s4_u35 ?s5_u35 ?s6_u35 ?s7_u35
                    case s1_u35 => kernel_rfl
                    case s2_u35 => kernel_rfl
                    case s3_u35 => kernel_rfl
                    case s4_u35 => exact fun _ _ _ h => h
                    case s5_u35 => exact Or.inl ⟨rfl, by intro w hSw; (try dsimp only at hSw); go_simp; try with_reducible rfl⟩
                    case s6_u35 => assumption
                    try simp only [Act.put, List.setIfInBounds_toArray, List.set_cons_zero, List.set_cons_succ]
                    with_reducible refine takeI2 (i := 32) (v := ?sv_u36) (oi := ?s0_u36) (by simp only [List.getElem?_toArray, List.getElem?_cons_succ, List.getElem?_cons_zero]; exact rfl) ?s1_u36 ?s2_u36 ?s3_u36 ?s4_u36 ?s5_u36 ?s6_u36 ?s7_u36
                    case s1_u36 => kernel_rfl
                    case s2_u36 => kernel_rfl
                    case s3_u36 => kernel_rfl
                    case s4_u36 => exact fun _ _ _ h => h
                    case s5_u36 => exact Or.inl ⟨rfl, by intro w hSw; (try dsimp only at hSw); go_simp; try with_reducible rfl⟩
                    case s6_u36 => assumption
                    try simp only [Act.put, List.setIfInBounds_toArray, List.set_cons_zero, List.set_cons_succ]
                    with_reducible refine takeI2 (i := 33) (v := ?sv_u37) (oi := ?s0_u37) (by simp only [List.getElem?_toArray, List.getElem?_cons_succ, List.getElem?_cons_zero]; exact rfl) ?s1_u37 ?s2_u37 ?s3_u37 ?s4_u37 ?s5_u37 ?s6_u37 ?s7_u37
                    case s1_u37 => kernel_rfl
                    case s2_u37 => kernel_rfl
                    case s3_u37 => kernel_rfl
                    case s4_u37 => exact fun _ _ _ h => h
                    case s5_u37 => exact Or.inl ⟨rfl, by intro w hSw; (try dsimp only at hSw); go_simp; try with_reducible rfl⟩
                    case s6_u37 => assumption
                    try simp only [Act.put, List.setIfInBounds_toArray, List.set_cons_zero, List.set_cons_succ]
                    with_reducible refine takeI2 (i := 34) (v := ?sv_u38) (oi := ?s0_u38) (by simp only [List.getElem?_toArray, List.getElem?_cons_succ, List.getElem?_cons_zero]; exact rfl) ?s1_u38 ?s2_u38 ?s3_u38 ?s4_u38 ?s5_u38 ?s6_u38 ?s7_u38
                    case s1_u38 => kernel_rfl
                    case s2_u38 => kernel_rfl
                    case s3_u38 => kernel_rfl
                    case s4_u38 => exact fun _ _ _ h => h
                    case s5_u38 => exact Or.inl ⟨rfl, by intro w hSw; (try dsimp only at hSw); go_simp; try with_reducible rfl⟩
                    case s6_u38 => assumption
                    try simp only [Act.put, List.setIfInBounds_toArray, List.set_cons_zero, List.set_cons_succ]
                    with_reducible refine takeI2 (i := 35) (v := ?sv_u39) (oi := ?s0_u39) (by simp only [List.getElem?_toArray, List.getElem?_cons_succ, List.getElem?_cons_zero]; exact rfl) ?s1_u39 ?s2_u39 ?s3_u39 ?s4_u39 ?s5_u39 ?s6_u39 ?s7_u39
                    case s1_u39 => kernel_rfl
                    case s2_u39 => kernel_rfl
                    case s3_u39 => kernel_rfl
                    case s4_u39 => exact fun _ _ _ h => h
                    case s5_u39 => exact Or.inl ⟨rfl, by intro w hSw; (try dsimp only at hSw); go_simp; try with_reducible rfl⟩
                    case s6_u39 => assumption
                    try simp only [Act.put, List.setIfInBounds_toArray, List.set_cons_zero, List.set_cons_succ]
                    with_reducible refine takeI2 (i := 36) (v := ?sv_u40) (oi := ?s0_u40) (by simp only [List.getElem?_toArray, List.getElem?_cons_succ, List.getElem?_cons_zero]; exact rfl) ?s1_u40 ?s2_u40 ?s3_u40 ?s4_u40 ?s5_u40 ?s6_u40 ?s7_u40
                    case s1_u40 => kernel_rfl
                    case s2_u40 => kernel_rfl
                    case s3_u40 => kernel_rfl
                    case s4_u40 => exact fun _ _ _ h => h
                    case s5_u40 => exact Or.inl ⟨rfl, by intro w hSw; (try dsimp only at hSw); go_simp; try with_reducible rfl⟩
                    case s6_u40 => assumption
                    try simp only [Act.put, List.setIfInBounds_toArray, List.set_cons_zero, List.set_cons_succ]
                    with_reducible refine takeI2 (i := 37) (v := ?sv_u41) (oi := ?s0_u41) (by simp only [List.getElem?_toArray, List.getElem?_cons_succ, List.getElem?_cons_zero]; exact rfl) ?s1_u41 ?s2_u41 ?s3_u41 ?s4_u41 ?s5_u41 ?s6_u41 ?s7_u41
                    case s1_u41 => kernel_rfl
                    case s2_u41 => kernel_rfl
                    case s3_u41 => kernel_rfl
                    case s4_u41 => exact fun _ _ _ h => h
                    case s5_u41 => exact Or.inl ⟨rfl, by intro w hSw; (try dsimp only at hSw); go_simp; try with_reducible rfl⟩
                    case s6_u41 => assumption
                    try simp only [Act.put, List.setIfInBounds_toArray, List.set_cons_zero, List.set_cons_succ]
                    with_reducible refine takeI2 (i := 38) (v := ?sv_u42) (oi := ?s0_u42) (by simp only [List.getElem?_toArray, List.getElem?_cons_succ, List.getElem?_cons_zero]; exact rfl) ?s1_u42 ?s2_u42 ?s3_u42 ?s4_u42 ?s5_u42 ?s6_u42 ?s7_u42
                    case s1_u42 => kernel_rfl
                    case s2_u42 => kernel_rfl
                    case s3_u42 => kernel_rfl
                    case s4_u42 => exact fun _ _ _ h => h
                    case s5_u42 => exact Or.inl ⟨rfl, by intro w hSw; (try dsimp only at hSw); go_simp; try with_reducible rfl⟩
                    case s6_u42 => assumption
                    try simp only [Act.put, List.setIfInBounds_toArray, List.set_cons_zero, List.set_cons_succ]
                    with_reducible refine takeI2 (i := 39) (v := ?sv_u43) (oi := ?s0_u43) (by simp only [List.getElem?_toArray, List.getElem?_cons_succ, List.getElem?_cons_zero]; exact rfl) ?s1_u43 ?s2_u43 ?s3_u43 ?s4_u43 ?s5_u43 ?s6_u43 ?s7_u43
                    case s1_u43 => kernel_rfl
                    case s2_u43 => kernel_rfl
                    case s3_u43 => kernel_rfl
                    case s4_u43 => exact fun _ _ _ h => h
                    case s5_u43 => exact Or.inl ⟨rfl, by intro w hSw; (try dsimp only at hSw); go_simp; try with_reducible rfl⟩
                    case s6_u43 => assumption
                    try simp only [Act.put, List.setIfInBounds_toArray, List.set_cons_zero, List.set_cons_succ]
                    with_reducible refine takeI2 (i := 40) (v := ?sv_u44) (oi := ?s0_u44) (by simp only [List.getElem?_toArray, List.getElem?_cons_succ, List.getElem?_cons_zero]; exact rfl) ?s1_u44 ?s2_u44 ?s3_u44 ?s4_u44 ?s5_u44 ?s6_u44 ?s7_u44
                    case s1_u44 => kernel_rfl
                    case s2_u44 => kernel_rfl
                    case s3_u44 => kernel_rfl
                    case s4_u44 => exact fun _ _ _ h => h
                    case s5_u44 => exact Or.inl ⟨rfl, by intro w hSw; (try dsimp only at hSw); go_simp; try with_reducible rfl⟩
                    case s6_u44 => assumption
                    try simp only [Act.put, List.setIfInBounds_toArray, List.set_cons_zero, List.set_cons_succ]
                    with_reducible refine takeI2 (i := 41) (v := ?sv_u45) (oi := ?s0_u45) (by simp only [List.getElem?_toArray, List.getElem?_cons_succ, List.getElem?_cons_zero]; exact rfl) ?s1_u45 ?s2_u45 ?s3_u45 ?s4_u45 ?s5_u45 ?s6_u45 ?s7_u45
                    case s1_u45 => kernel_rfl
                    case s2_u45 => kernel_rfl
                    case s3_u45 => kernel_rfl
                    case s4_u45 => exact fun _ _ _ h => h
                    case s5_u45 => exact Or.inl ⟨rfl, by intro w hSw; (try dsimp only at hSw); go_simp; try with_reducible rfl⟩
                    case s6_u45 => assumption
                    try simp only [Act.put, List.setIfInBounds_toArray, List.set_cons_zero, List.set_cons_succ]
                    with_reducible refine takeI2 (i := 42) (v := ?sv_u46) (oi := ?s0_u46) (by simp only [List.getElem?_toArray, List.getElem?_cons_succ, List.getElem?_cons_zero]; exact rfl) ?s1_u46 ?s2_u46 ?s3_u46 ?s4_u46 ?s5_u46 ?s6_u46 ?s7_u46
                    case s1_u46 => kernel_rfl
                    case s2_u46 => kernel_rfl
                    case s3_u46 => kernel_rfl
                    case s4_u46 => exact fun _ _ _ h => h
                    case s5_u46 => exact Or.inl ⟨rfl, by intro w hSw; (try dsimp only at hSw); go_simp; try with_reducible rfl⟩
                    case s6_u46 => assumption
                    try simp only [Act.put, List.setIfInBounds_toArray, List.set_cons_zero, List.set_cons_succ]
                    with_reducible refine takeI2 (i := 43) (v := ?sv_u47) (oi := ?s0_u47) (by simp only [List.getElem?_toArray, List.getElem?_cons_succ, List.getElem?_cons_zero]; exact rfl) ?s1_u47 ?s2_u47 ?s3_u47 ?s4_u47 ?s5_u47 ?s6_u47 ?s7_u47
                    case s1_u47 => kernel_rfl
                    case s2_u47 => kernel_rfl
                    case s3_u47 => kernel_rfl
                    case s4_u47 => exact fun _ _ _ h => h
                    case s5_u47 => exact Or.inl ⟨rfl, by intro w hSw; (try dsimp only at hSw); go_simp; try with_reducible rfl⟩
                    case s6_u47 => assumption
                    try simp only [Act.put, List.setIfInBounds_toArray, List.set_cons_zero, List.set_cons_succ]
                    with_reducible refine takeI2 (i := 44) (v := ?sv_u48) (oi := ?s0_u48) (by simp only [List.getElem?_toArray, List.getElem?_cons_succ, List.getElem?_cons_zero]; exact rfl) ?s1_u48 ?s2_u48 ?s3_u48 ?s4_u48 ?s5_u48 ?s6_u48 ?s7_u48
                    case s1_u48 => kernel_rfl
                    case s2_u48 => kernel_rfl
                    case s3_u48 => kernel_rfl
                    case s4_u48 => exact fun _ _ _ h => h
                    case s5_u48 => exact Or.inl ⟨rfl, by intro w hSw; (try dsimp only at hSw); go_simp; try with_reducible rfl⟩
                    case s6_u48 => assumption
                    try simp only [Act.put, List.setIfInBounds_toArray, List.set_cons_zero, List.set_cons_succ]
                    with_reducible refine takeI2 (i := 45) (v := ?sv_u49) (oi := ?s0_u49) (by simp only [List.getElem?_toArray, List.getElem?_cons_succ, List.getElem?_cons_zero]; exact rfl) ?s1_u49 ?s2_u49 ?s3_u49 ?s4_u49 ?s5_u49 ?s6_u49 ?s7_u49
                    case s1_u49 => kernel_rfl
                    case s2_u49 => kernel_rfl
                    case s3_u49 => kernel_rfl
                    case s4_u49 => exact fun _ _ _ h => h
                    case s5_u49 => exact Or.inl ⟨rfl, by intro w hSw; (try dsimp only at hSw); go_simp; try with_reducible rfl⟩
                    case s6_u49 => assumption
                    try simp only [Act.put, List.setIfInBounds_toArray, List.set_cons_zero, List.set_cons_succ]
                    with_reducible refine takeI2 (i := 46) (v := ?sv_u50) (oi := ?s0_u50) (by simp only [List.getElem?_toArray, List.getElem?_cons_succ, List.getElem?_cons_zero]; exact rfl) ?s1_u50 ?s2_u50 ?s3_u50 ?s4_u50 ?s5_u50 ?s6_u50 ?s7_u50
                    case s1_u50 => kernel_rfl
                    case s2_u50 => kernel_rfl
                    case s3_u50 => kernel_rfl
                    case s4_u50 => exact fun _ _ _ h => h
                    case s5_u50 => exact Or.inl ⟨rfl, by intro w hSw; (try dsimp only at hSw); go_simp; try with_reducible rfl⟩
                    case s6_u50 => assumption
                    try simp only [Act.put, List.setIfInBounds_toArray, List.set_cons_zero, List.set_cons_succ]
                    with_reducible refine takeI2 (i := 47) (v := ?sv_u51) (oi := ?s0_u51) (by simp only [List.getElem?_toArray, List.getElem?_cons_succ, List.getElem?_cons_zero]; exact rfl) ?s1_u51 ?s2_u51 ?s3_u51 ?s4_u51 ?s5_u51 ?s6_u51 ?s7_u51
                    case s1_u51 => kernel_rfl
                    case s2_u51 => kernel_rfl
                    case s3_u51 => kernel_rfl
                    case s4_u51 => exact fun _ _ _ h => h
                    case s5_u51 => exact Or.inl ⟨rfl, by intro w hSw; (try dsimp only at hSw); go_simp; try with_reducible rfl⟩
                    case s6_u51 => assumption
                    try simp only [Act.put, List.setIfInBounds_toArray, List.set_cons_zero, List.set_cons_succ]
                    with_reducible refine takeI2 (i := 48) (v := ?sv_u52) (oi := ?s0_u52) (by simp only [List.getElem?_toArray, List.getElem?_cons_succ, List.getElem?_cons_zero]; exact rfl) ?s1_u52 ?s2_u52 ?s3_u52 ?s4_u52 ?s5_u52 ?s6_u52 ?s7_u52
                    case s1_u52 => kernel_rfl
                    case s2_u52 => kernel_rfl
                    case s3_u52 => kernel_rfl
                    case s4_u52 => exact fun _ _ _ h => h
                    case s5_u52 => exact Or.inl ⟨rfl, by intro w hSw; (try dsimp only at hSw); go_simp; try with_reducible rfl⟩
                    case s6_u52 => assumption
                    try simp only [Act.put, List.setIfInBounds_toArray, List.set_cons_zero, List.set_cons_succ]
                    with_reducible refine takeI2 (i := 49) (v := ?sv_u53) (oi := ?s0_u53) (by simp only [List.getElem?_toArray, List.getElem?_cons_succ, List.getElem?_cons_zero]; exact rfl) ?s1_u53 ?s2_u53 ?s3_u53 ?s4_u53 ?s5_u53 ?s6_u53 ?s7_u53
                    case s1_u53 => kernel_rfl
                    case s2_u53 => kernel_rfl
                    case s3_u53 => kernel_rfl
                    case s4_u53 => exact fun _ _ _ h => h
                    case s5_u53 => exact Or.inl ⟨rfl, by intro w hSw; (try dsimp only at hSw); go_simp; try with_reducible rfl⟩
                    case s6_u53 => assumption
                    try simp only [Act.put, List.setIfInBounds_toArray, List.set_cons_zero, List.set_cons_succ]
                    with_reducible refine takeI2 (i := 50) (v := ?sv_u54) (oi := ?s0_u54) (by simp only [List.getElem?_toArray, List.getElem?_cons_succ, List.getElem?_cons_zero]; exact rfl) ?s1_u54 ?s2_u54 ?s3_u54 ?s4_u54 ?s5_u54 ?s6_u54 ?s7_u54
                    case s1_u54 => kernel_rfl
                    case s2_u54 => kernel_rfl
                    case s3_u54 => kernel_rfl
                    case s4_u54 => exact fun _ _ _ h => h
                    case s5_u54 => exact Or.inl ⟨rfl, by intro w hSw; (try dsimp only at hSw); go_simp; try with_reducible rfl⟩
                    case s6_u54 => assumption
                    try simp only [Act.put, List.setIfInBounds_toArray, List.set_cons_zero, List.set_cons_succ]
                    with_reducible refine takeI2 (i := 51) (v := ?sv_u55) (oi := ?s0_u55) (by simp only [List.getElem?_toArray, List.getElem?_cons_succ, List.getElem?_cons_zero]; exact rfl) ?s1_u55 ?s2_u55 ?s3_u55 ?s4_u55 ?s5_u55 ?s6_u55 ?s7_u55
                    case s1_u55 => kernel_rfl
                    case s2_u55 => kernel_rfl
                    case s3_u55 => kernel_rfl
                    case s4_u55 => exact fun _ _ _ h => h
                    case s5_u55 => exact Or.inl ⟨rfl, by intro w hSw; (try dsimp only at hSw); go_simp; try with_reducible rfl⟩
                    case s6_u55 => assumption
                    try simp only [Act.put, List.setIfInBounds_toArray, List.set_cons_zero, List.set_cons_succ]
                    with_reducible refine wpAnyH_ready (rs := [52]) ?s1_u56 one_ne ?s2_u56
                    case s1_u56 => kernel_rfl
                    with_reducible refine AllReadyH.cons (o := ?s0_u56) (by simp only [List.getElem?_toArray, List.getElem?_cons_succ, List.getElem?_cons_zero]; exact rfl) (fun K hK => ?s3_u56) AllReadyH.nil
                    go_simp
                    (have hgl := below_alloc1 w1 (.cells #[.int .i64 3, .int .i64 9] 3); have hF := rd_alloc w1 #[.int .i64 3, .int .i64 9] 3 2 (by decide); replace hB := bvia hB hgl; clear hgl)
                    with_reducible refine hK.out _ _ ?s1_u57 (fun hHeld => ?s2_u57)
                    case s1_u57 => exact trivial
                    clear hK K
                    try simp only [Act.put, List.setIfInBounds_toArray, List.set_cons_zero, List.set_cons_succ]
                    with_reducible refine wpAnyH_ready (rs := [53]) ?s1_u58 one_ne ?s2_u58
                    case s1_u58 => kernel_rfl
                    with_reducible refine AllReadyH.cons (o := ?s0_u58) (by simp only [List.getElem?_toArray, List.getElem?_cons_succ, List.getElem?_cons_zero]; exact rfl) (fun K hK => ?s3_u58) AllReadyH.nil
                    go_simp
                    go_at_call 13; (refine (HF39.out _ _ hF).mono ?_; rintro e w1 ⟨rfl, hd⟩; have hb1 := hd.below; clear hd; replace hB := bvia hB hb1; clear hb1)
                    go_wp2_with fail
                    with_reducible refine hK.out _ _ ?s1_u59 (fun hHeld => ?s2_u59)
                    case s1_u59 => exact trivial
                    clear hK K
                    try simp only [Act.put, List.setIfInBounds_toArray, List.set_cons_zero, List.set_cons_succ]
                    with_reducible refine takeI2 (i := 54) (v := ?sv_u60) (oi := ?s0_u60) (by simp only [List.getElem?_toArray, List.getElem?_cons_succ, List.getElem?_cons_zero]; exact rfl) ?s1_u60 ?s2_u60 ?s3_u60 ?s4_u60 ?s5_u60 ?s6_u60 ?s7_u60
                    case s1_u60 => kernel_rfl
                    case s2_u60 => kernel_rfl
                    case s3_u60 => kernel_rfl
                    case s4_u60 => exact fun _ _ _ h => h
                    case s5_u60 => exact Or.inl ⟨rfl, by intro w hSw; (try dsimp only at hSw); go_simp; try with_reducible rfl⟩
                    case s6_u60 => assumption
                    try simp only [Act.put, List.setIfInBounds_toArray, List.set_cons_zero, List.set_cons_succ]
                    with_reducible refine takeI2 (i := 55) (v := ?sv_u61) (oi := ?s0_u61) (by simp only [List.getElem?_toArray, List.getElem?_cons_succ, List.getElem?_cons_zero]; exact rfl) ?s1_u61 ?s2_u61 ?s3_u61 ?s4_u61 ?s5_u61 ?s6_u61 ?s7_u61
                    case s1_u61 => kernel_rfl
                    case s2_u61 => kernel_rfl
                    case s3_u61 => kernel_rfl
                    case s4_u61 => exact fun _ _ _ h => h
                    case s5_u61 => exact Or.inl ⟨rfl, by intro w hSw; (try dsimp only at hSw); go_simp; try with_reducible rfl⟩
                    case s6_u61 => assumption
                    try simp only [Act.put, List.setIfInBounds_toArray, List.set_cons_zero, List.set_cons_succ]
                    with_reducible refine takeI2 (i := 56) (v := ?sv_u62) (oi := ?s0_u62) (by simp only [List.getElem?_toArray, List.getElem?_cons_succ, List.getElem?_cons_zero]; exact rfl) ?s1_u62 ?s2_u62 ?s3_u62 ?s4_u62 ?s5_u62 ?s6_u62 ?s7_u62
                    case s1_u62 => kernel_rfl
                    case s2_u62 => kernel_rfl
                    case s3_u62 => kernel_rfl
                    case s4_u62 => exact fun _ _ _ h => h
                    case s5_u62 => exact Or.inl ⟨rfl, by intro w hSw; (try dsimp only at hSw); go_simp; try with_reducible rfl⟩
                    case s6_u62 => assumption
                    try simp only [Act.put, List.setIfInBounds_toArray, List.set_cons_zero, List.set_cons_succ]
                    with_reducible refine wpAnyH_done ?s1_u63 ?s2_u63 _
                    case s1_u63 => kernel_rfl
                    go_wp2
                    go_returns
                    exact ⟨rfl, hB⟩
  · have hbd : decide (1048576 < n) = true := decide_eq_true (by omega)
    go_enter Try.func3, Try.ntmps3
    go_wp2_with (fail)
    refine (big_any n _ _ _ hr).mono ?_
    rintro e w1 ⟨rfl, rfl⟩
    go_wp2_with (fail)
    go_returns
    exact ⟨rfl, Below.refl _ _⟩
end Go.Proofs.Ytkkcglncjdoacaa
