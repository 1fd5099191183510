/- The walks of PropsIn and EmptyScenes: the props of a scene in ascending order; the scenes without props. -/
import Derived.Test.YtgfpnadjkemafaaLend
import Derived.Test.YtgfpnadjkemafaaPut
namespace Go.Proofs.Ytgfpnadjkemafaa
open Go.ChangeShapes Go.WideShapes Go.ChangeAt Go.RowKit Go.Joins
set_option linter.unusedSimpArgs false
set_option linter.unusedVariables false

/-- c p times p, for n numbers from a on. -/
def bag (c : Int → Nat) (a : Int) : Nat → List Int
  | 0 => []
  | n + 1 => List.replicate (c a) a ++ bag c (a + 1) n
theorem bag_congr {c d : Int → Nat} {n : Nat} : ∀ {a : Int}, (∀ p, a ≤ p → c p = d p) → bag c a n = bag d a n := by
  induction n with
  | zero => intro a _; rfl
  | succ n ih =>
    intro a h
    unfold bag
    rw [h a (Int.le_refl _), ih (fun p hp => h p (by omega))]
theorem bag_snoc (c : Int → Nat) (n : Nat) : ∀ a : Int, bag c a (n + 1) = bag c a n ++ List.replicate (c (a + n)) (a + n) := by
  induction n with
  | zero => intro a; simp [bag]
  | succ n ih =>
    intro a
    have h := ih (a + 1)
    rw [bag, h, bag, List.append_assoc]
    have e : a + 1 + (n : Int) = a + ((n + 1 : Nat) : Int) := by omega
    rw [e]
theorem bag_ge (c : Int → Nat) (n : Nat) : ∀ a x : Int, x ∈ bag c a n → a ≤ x := by
  induction n with
  | zero => intro a x h; simp [bag] at h
  | succ n ih =>
    intro a x h
    rw [bag, List.mem_append] at h
    rcases h with h | h
    · have := (List.mem_replicate.1 h).2; omega
    · have := ih _ _ h; omega
theorem putF_front {q : Int} : ∀ r : List Int, (∀ x ∈ r, q ≤ x) → putF q r = q :: r := by
  intro r h
  cases r with
  | nil => rfl
  | cons x r => exact putF_le r (h x (by simp))
theorem putF_rep {q x : Int} (hx : x < q) (r : List Int) (m : Nat) : putF q (List.replicate m x ++ r) = List.replicate m x ++ putF q r := by
  induction m with
  | zero => rfl
  | succ m ih => rw [List.replicate_succ, List.cons_append, putF_gt _ (by omega), ih]; rfl
theorem putF_bag (c : Int → Nat) (q : Int) (n : Nat) : ∀ a : Int, a ≤ q → q < a + n → putF q (bag c a n) = bag (fun p => c p + if p = q then 1 else 0) a n := by
  induction n with
  | zero => intro a h1 h2; simp at h2; omega
  | succ n ih =>
    intro a h1 h2
    by_cases h : a = q
    · subst h
      rw [putF_front _ (bag_ge c (n + 1) a), bag, bag]
      have e : bag (fun p => c p + if p = a then 1 else 0) (a + 1) n = bag c (a + 1) n := bag_congr fun p hp => by rw [if_neg (by omega)]; rfl
      rw [e]
      simp [List.replicate_succ]
    · rw [bag, putF_rep (by omega), ih (a + 1) (by omega) (by omega), bag]
      simp [h]
def cntP (zs : List (Int × Int)) (s p : Int) : Nat := zs.countP fun x => x.1 == p && x.2 == s
theorem cntP_hit {zs : List (Int × Int)} {k : Nat} {x0 x1 s p : Int} (h : zs.take (k + 1) = zs.take k ++ [(x0, x1)]) (h0 : x0 = p) (h1 : x1 = s) : cntP (zs.take (k + 1)) s p = cntP (zs.take k) s p + 1 := by
  unfold cntP
  rw [h, List.countP_append]
  simp [h0, h1]
theorem cntP_miss {zs : List (Int × Int)} {k : Nat} {x0 x1 s p : Int} (h : zs.take (k + 1) = zs.take k ++ [(x0, x1)]) (h0 : ¬ (x0 = p ∧ x1 = s)) : cntP (zs.take (k + 1)) s p = cntP (zs.take k) s p := by
  unfold cntP
  rw [h, List.countP_append]
  simpa using h0
def propsF (zs : List (Int × Int)) (s : Int) : List Int := bag (cntP zs s) 0 50
theorem bag_zero (n : Nat) : ∀ a : Int, bag (fun _ => 0) a n = [] := by
  induction n with
  | zero => intro a; rfl
  | succ n ih => intro a; rw [bag, ih]; rfl
theorem propsF_nil (s : Int) : propsF [] s = [] := bag_zero 50 0
theorem propsF_hit {zs : List (Int × Int)} {k : Nat} {x0 x1 s : Int} (h : zs.take (k + 1) = zs.take k ++ [(x0, x1)]) (h1 : x1 = s) (hlo : 0 ≤ x0) (hhi : x0 ≤ 49) : propsF (zs.take (k + 1)) s = putF x0 (propsF (zs.take k) s) := by
  unfold propsF
  rw [putF_bag _ _ _ _ hlo (by omega)]
  refine bag_congr fun p _ => ?_
  by_cases hp : p = x0
  · rw [cntP_hit h hp.symm h1, if_pos hp]
  · rw [cntP_miss h (by rintro ⟨h2, _⟩; exact hp h2.symm), if_neg hp]; rfl
theorem propsF_miss {zs : List (Int × Int)} {k : Nat} {x0 x1 s : Int} (h : zs.take (k + 1) = zs.take k ++ [(x0, x1)]) (h1 : x1 ≠ s) : propsF (zs.take (k + 1)) s = propsF (zs.take k) s :=
  bag_congr fun p _ => cntP_miss h (fun h2 => h1 h2.2)
def propsR (zs : List (Int × Int)) (s : Int) : List Int := if loansB zs = true then propsF zs s else []
theorem loanB_bd {x : Int × Int} (h : loanB x = true) : 0 ≤ x.1 ∧ x.1 ≤ 49 ∧ 0 ≤ x.2 ∧ x.2 ≤ 99 := by
  simp only [loanB, Bool.and_eq_true] at h
  have h1 := inB_true.1 h.1
  have h2 := inB_true.1 h.2
  exact ⟨h1.1, h1.2, h2.1, h2.2⟩
theorem loansF_mem (zs : List (Int × Int)) : ∀ A, loansF A zs = true → ∀ x ∈ zs, loanB x = true := by
  induction zs with
  | nil => intro A _ x hx; simp at hx
  | cons z r ih =>
    intro A h x hx
    rw [loansF_cons, Bool.and_eq_true, Bool.and_eq_true] at h
    rcases List.mem_cons.1 hx with rfl | hx
    · exact h.1.1
    · exact ih _ h.2 x hx
theorem loansB_bd {zs : List (Int × Int)} (h : loansB zs = true) : zs.length ≤ 20 ∧ ∀ x ∈ zs, 0 ≤ x.1 ∧ x.1 ≤ 49 ∧ 0 ≤ x.2 ∧ x.2 ≤ 99 := by
  simp only [loansB, Bool.and_eq_true, decide_eq_true_eq] at h
  exact ⟨h.1, fun x hx => loanB_bd (loansF_mem zs [] h.2 x hx)⟩
theorem bag_cnt_length (zs : List (Int × Int)) (s : Int) (n : Nat) : ∀ a : Int, (bag (cntP zs s) a n).length ≤ zs.length * n := by
  induction n with
  | zero => intro a; simp [bag]
  | succ n ih =>
    intro a
    have h1 : cntP zs s a ≤ zs.length := List.countP_le_length
    have h2 := ih (a + 1)
    rw [bag, List.length_append, List.length_replicate, Nat.mul_succ]
    omega
theorem propsR_length (zs : List (Int × Int)) (s : Int) : (propsR zs s).length ≤ 1000 := by
  unfold propsR
  split
  · rename_i h
    have := bag_cnt_length zs s 50 0
    have h2 := (loansB_bd h).1
    unfold propsF
    omega
  · simp

set_option maxHeartbeats 800000 in
theorem implPropsIn_any (zs : List (Int × Int)) (s : Int) (v : Value) (w : World) (h : RdLoan w v zs) :
    Calls Try.prog 24 #[v, .int .i64 s] w fun e w' => ∃ u, e = .returned u ∧ OwI w' w.heap.size u (propsR zs s) ∧ Below w.heap.size w w' := by
  have HR := Lib.hid h
  obtain ⟨ad, cap, bl, off, rfl, hcap, hmax, had, hc⟩ := h.open
  have HC := Lib.hid hc
  clear h hc
  by_cases hg : loansB zs = true
  · rw [show propsR zs s = propsF zs s from if_pos hg]
    obtain ⟨hl20, hm⟩ := loansB_bd hg
    have HM := Lib.hid hm
    clear hm
    go_enter Try.func24, Try.ntmps24
    go_wp2_with (fail)
    refine (implLoansOk_any zs _ _ HR.out).mono ?_
    rintro e w1 ⟨rfl, hb⟩
    have hB1 := hb.alloc hb.size (.cells #[] 3)
    have HE := Lib.hid (OwI.empty w1 w.heap.size hb.size)
    go_wp2_with (fail)
    go_loopw [5, 14] (fun u i wr => ∃ (k : Nat) (A : List Int), k ≤ zs.length ∧ i = .int .i64 k ∧ OwI wr w.heap.size u A ∧ A.length ≤ k ∧ Below w.heap.size w wr ∧ Hid (A = propsF (zs.take k) s)) (fun _ i _ => zs.length - (intOf i).toNat)
    case atStart => exact ⟨0, [], Nat.zero_le _, rfl, HE.out, Nat.le_refl _, hB1, by show _ = _; rw [List.take_zero, propsF_nil]⟩
    case round =>
      obtain ⟨k, A, hk, rfl, ho, hA, hB, HA⟩ := hrel
      by_cases hlt : k < zs.length
      · obtain rfl := had (by omega)
        obtain ⟨⟨x0, x1⟩, hx⟩ : ∃ x, zs[k]? = some x := ⟨_, List.getElem?_eq_getElem hlt⟩
        have hsrc : wr.cell? ⟨bl, off + k * 2, none⟩ = some (.int .i64 x0) ∧ wr.cell? ⟨bl, off + k * 2 + 1, none⟩ = some (.int .i64 x1) := by
          have h1 := HC.out k hlt
          rw [List.getD_eq_getElem?_getD, hx] at h1
          exact ⟨cell_on hB h1.1, cell_on hB h1.2⟩
        obtain ⟨hck0, hck1⟩ := hsrc
        have HT := Lib.hid (take_get? hx)
        have hM := HM.out _ (List.mem_of_getElem? hx)
        dsimp only at hM
        clear hx
        have hB2 := hB.alloc hB.size (.cells #[.int .i64 x0, .int .i64 x1] 46)
        by_cases hs : x1 = s
        · have HN : Hid (putF x0 A = propsF (zs.take (k + 1)) s) := by show _ = _; rw [propsF_hit HT.out hs hM.1 hM.2.1, HA.out]
          subst hs
          clear hM
          go_wp2_with (fail)
          refine (put_any A x0 (by omega) _ _ ((ho.alloc _).rd)).mono ?_
          rintro e w2 ⟨u2, rfl, o2, hb2⟩
          go_wp2_with (fail)
          exact ⟨⟨k + 1, putF x0 A, by omega, by go_num, o2.base hB2.size, by rw [putF_length]; omega, bvia hB2 hb2, HN⟩, by simp [intOf]; omega⟩
        · have HN : Hid (A = propsF (zs.take (k + 1)) s) := by show _ = _; rw [propsF_miss HT.out hs, HA.out]
          have hsb : (x1 == s) = false := beq_eq_false_iff_ne.2 hs
          clear hM
          go_wp2_with (fail)
          exact ⟨⟨k + 1, A, by omega, by go_num, ho.alloc _, by omega, hB2, HN⟩, by simp [intOf]; omega⟩
      · go_wp2
        go_ret
        obtain rfl : k = zs.length := by omega
        have e : A = propsF zs s := by rw [HA.out, List.take_length]
        exact ⟨_, rfl, by rw [← e]; exact ho, hB⟩
  · have hg' : loansB zs = false := by simpa using hg
    rw [show propsR zs s = [] from if_neg hg]
    clear hg
    go_enter Try.func24, Try.ntmps24
    go_wp2_with (fail)
    refine (implLoansOk_any zs _ _ HR.out).mono ?_
    rintro e w1 ⟨rfl, hb⟩
    go_wp2_with (fail)
    go_ret
    exact ⟨_, rfl, OwI.nil _ _, hb⟩
set_option maxHeartbeats 800000 in
theorem specPropsIn_any (zs : List (Int × Int)) (s : Int) (v : Value) (w : World) (h : RdLoan w v zs) :
    Calls Try.prog 23 #[v, .int .i64 s] w fun e w' => ∃ u, e = .returned u ∧ OwI w' w.heap.size u (propsR zs s) ∧ Below w.heap.size w w' := by
  have HR := Lib.hid h
  obtain ⟨ad, cap, bl, off, rfl, hcap, hmax, had, hc⟩ := h.open
  have HC := Lib.hid hc
  clear h hc
  have hB0 := below_alloc1 w (.cells #[] 3)
  have HE := Lib.hid (OwI.empty w w.heap.size (Nat.le_refl _))
  by_cases hg : loansB zs = true
  · rw [show propsR zs s = propsF zs s from if_pos hg]
    obtain ⟨hl20, hm⟩ := loansB_bd hg
    clear hm
    go_enter Try.func23, Try.ntmps23
    go_wp2_with (fail)
    refine (specLoansOk_b zs _ _ (HR.out.alloc _)).mono ?_
    rintro e w1 ⟨rfl, hd⟩
    replace HE := Lib.hid (HE.out.below hd)
    replace hB0 := bvia hB0 hd
    clear hd
    go_wp2_with (fail)
    go_loopw [5, 6] (fun u i wr => ∃ (p : Nat) (A : List Int), p ≤ 50 ∧ i = .int .i64 p ∧ OwI wr w.heap.size u A ∧ A.length ≤ 20 * p ∧ Below w.heap.size w wr ∧ Hid (A = bag (cntP zs s) 0 p)) (fun _ i _ => 50 - (intOf i).toNat)
    case atStart => exact ⟨0, [], Nat.zero_le _, rfl, HE.out, by simp, hB0, rfl⟩
    case round =>
      clear HE hB0
      obtain ⟨p, A, hp, rfl, ho, hA, hB, HA⟩ := hrel
      by_cases hp50 : p < 50
      · go_wp2_with (fail)
        go_loopw [5, 7] (fun u i wr => ∃ (k : Nat) (C : List Int), k ≤ zs.length ∧ i = .int .i64 k ∧ OwI wr w.heap.size u C ∧ C.length ≤ 20 * p + k ∧ Below w.heap.size w wr ∧ Hid (C = A ++ List.replicate (cntP (zs.take k) s p) (p : Int))) (fun _ i _ => zs.length - (intOf i).toNat)
        case atStart => exact ⟨0, A, Nat.zero_le _, rfl, ho, by omega, hB, by show _ = _; simp [cntP]⟩
        case round =>
          clear ho hB
          obtain ⟨k, C, hk, rfl, ho, hC, hB, HN⟩ := hrel
          by_cases hlt : k < zs.length
          · obtain rfl := had (by omega)
            obtain ⟨⟨x0, x1⟩, hx⟩ : ∃ x, zs[k]? = some x := ⟨_, List.getElem?_eq_getElem hlt⟩
            have hsrc : wr.cell? ⟨bl, off + k * 2, none⟩ = some (.int .i64 x0) ∧ wr.cell? ⟨bl, off + k * 2 + 1, none⟩ = some (.int .i64 x1) := by
              have h1 := HC.out k hlt
              rw [List.getD_eq_getElem?_getD, hx] at h1
              exact ⟨cell_on hB h1.1, cell_on hB h1.2⟩
            obtain ⟨hck0, hck1⟩ := hsrc
            have HT := Lib.hid (take_get? hx)
            clear hx
            by_cases h0 : x0 = (p : Int)
            · by_cases h1 : x1 = s
              · have HK : Hid (C ++ [(p : Int)] = A ++ List.replicate (cntP (zs.take (k + 1)) s p) (p : Int)) := by show _ = _; rw [cntP_hit HT.out h0 h1, List.replicate_succ', HN.out, List.append_assoc]
                subst h0
                subst h1
                go_wp2_with (at_builtin; refine wpList_pushI rfl (.tmp 39) (.tmp 41) rfl _ _ w.heap.size _ _ rfl ho rfl (by omega) hB.size ?_; intro v1 w1 o1 hgr _; have hB2 := ho.grown_below hB (Nat.le_refl _) hgr; clear hgr)
                exact ⟨⟨k + 1, by omega, by go_num, C ++ [(p : Int)], o1, by simp; omega, HK⟩, by simp [intOf]; omega⟩
              · have HK : Hid (C = A ++ List.replicate (cntP (zs.take (k + 1)) s p) (p : Int)) := by show _ = _; rw [cntP_miss HT.out (fun h => h1 h.2), HN.out]
                have h1b : (x1 == s) = false := beq_eq_false_iff_ne.2 h1
                subst h0
                go_wp2_with (fail)
                exact ⟨⟨k + 1, C, by omega, by go_num, ho, by omega, hB, HK⟩, by simp [intOf]; omega⟩
            · have HK : Hid (C = A ++ List.replicate (cntP (zs.take (k + 1)) s p) (p : Int)) := by show _ = _; rw [cntP_miss HT.out (fun h => h0 h.1), HN.out]
              have h0b : (x0 == (p : Int)) = false := beq_eq_false_iff_ne.2 h0
              go_wp2_with (fail)
              exact ⟨⟨k + 1, C, by omega, by go_num, ho, by omega, hB, HK⟩, by simp [intOf]; omega⟩
          · obtain rfl : k = zs.length := by omega
            have HK : Hid (C = bag (cntP zs s) 0 (p + 1)) := by show _ = _; rw [bag_snoc, Int.zero_add, HN.out, HA.out, List.take_length]
            go_wp2_with (fail)
            exact ⟨⟨p + 1, C, by omega, by go_num, ho, by omega, hB, HK⟩, by simp [intOf]; omega⟩
      · go_wp2
        go_ret
        obtain rfl : p = 50 := by omega
        have e : A = propsF zs s := HA.out
        exact ⟨_, rfl, by rw [← e]; exact ho, hB⟩
  · have hg' : loansB zs = false := by simpa using hg
    rw [show propsR zs s = [] from if_neg hg]
    clear hg
    go_enter Try.func23, Try.ntmps23
    go_wp2_with (fail)
    refine (specLoansOk_b zs _ _ (HR.out.alloc _)).mono ?_
    rintro e w1 ⟨rfl, hd⟩
    replace HE := Lib.hid (HE.out.below hd)
    replace hB0 := bvia hB0 hd
    go_wp2_with (fail)
    go_ret
    exact ⟨_, rfl, HE.out, hB0⟩

theorem walkFnExactPropsIn (zs : List (Int × Int)) (s : Int) (vzs : Value) (w : World) (hzs : RdLoan w vzs zs) : Calls Try.prog 7 #[vzs, .int .i64 s] w fun e w' => e = .returned (.bool true) ∧ Below w.heap.size w w' := by
  have hmxzs : zs.length ≤ 9223372036854775807 := by obtain ⟨_, _, _, _, _, h1, h2, _⟩ := hzs.open; omega
  obtain ⟨azs, capzs, rfl⟩ := hzs.shape
  by_cases hlzs : zs.length ≤ 1048576
  · skip
    have hB := Below.refl w.heap.size w
    have hyl := propsR_length zs s
    go_enter Try.func7, Try.ntmps7
    go_wp2_with (fail)
    refine (szLoanS_ok _ _ _ _ (by omega) (by omega) _).mono ?_
    rintro e w' ⟨rfl, rfl⟩
    go_wp2_with (fail)
    refine (toLoanS_any zs (by omega) _ _ (hzs.below hB)).mono ?_
    rintro e w1 ⟨ut0, rfl, ot0, hb⟩
    have bt0 := hB.size
    replace hB := bvia hB hb
    clear hb
    go_wp2_with (fail)
    refine (specPropsIn_any zs s  _ _ ot0.rd).mono ?_
    rintro e w2 ⟨uw, rfl, ow, hb⟩
    have dt0_w := dis_of ot0.lt ow.lt (Nat.le_refl _)
    have dw_t0 := dis_of' ot0.lt ow.lt (Nat.le_refl _)
    have bw := hB.size
    replace ot0 := ot0.below hb
    replace hB := bvia hB hb
    clear hb
    clear ot0
    go_wp2_with (fail)
    refine (toLoanS_any zs (by omega) _ _ (hzs.below hB)).mono ?_
    rintro e w3 ⟨ux0, rfl, ox0, hb⟩
    have dw_x0 := dis_of ow.lt ox0.lt (Nat.le_refl _)
    have dx0_w := dis_of' ow.lt ox0.lt (Nat.le_refl _)
    have bx0 := hB.size
    replace ow := ow.below hb
    replace hB := bvia hB hb
    clear hb
    go_wp2_with (fail)
    refine (implPropsIn_any zs s  _ _ ox0.rd).mono ?_
    rintro e w4 ⟨ug, rfl, og, hb⟩
    have dw_g := dis_of ow.lt og.lt (Nat.le_refl _)
    have dg_w := dis_of' ow.lt og.lt (Nat.le_refl _)
    have dx0_g := dis_of ox0.lt og.lt (Nat.le_refl _)
    have dg_x0 := dis_of' ox0.lt og.lt (Nat.le_refl _)
    have bg := hB.size
    replace ow := ow.below hb
    replace ox0 := ox0.below hb
    replace hB := bvia hB hb
    clear hb
    go_wp2_with (fail)
    refine (eqIntS_any (propsR zs s) _ _ _ og.rd ow.rd).mono ?_
    rintro e w5 ⟨rfl, hd⟩
    have hb := hd.below; clear hd
    replace ow := ow.below hb
    replace ox0 := ox0.below hb
    replace og := og.below hb
    replace hB := bvia hB hb
    clear hb
    go_wp2_with (fail)
    refine (toLoanS_any zs (by omega) _ _ (hzs.below hB)).mono ?_
    rintro e w6 ⟨uy0, rfl, oy0, hb⟩
    have dw_y0 := dis_of ow.lt oy0.lt (Nat.le_refl _)
    have dy0_w := dis_of' ow.lt oy0.lt (Nat.le_refl _)
    have dx0_y0 := dis_of ox0.lt oy0.lt (Nat.le_refl _)
    have dy0_x0 := dis_of' ox0.lt oy0.lt (Nat.le_refl _)
    have dg_y0 := dis_of og.lt oy0.lt (Nat.le_refl _)
    have dy0_g := dis_of' og.lt oy0.lt (Nat.le_refl _)
    have by0 := hB.size
    replace ow := ow.below hb
    replace ox0 := ox0.below hb
    replace og := og.below hb
    replace hB := bvia hB hb
    clear hb
    go_wp2_with (fail)
    refine (eqLoanS_any zs _ _ _ ox0.rd oy0.rd).mono ?_
    rintro e w7 ⟨rfl, hb⟩
    replace ow := ow.below hb
    replace ox0 := ox0.below hb
    replace og := og.below hb
    replace oy0 := oy0.below hb
    replace hB := bvia hB hb
    clear hb
    clear oy0
    go_wp2_with (fail)
    refine (markLoanS_any zs _ (by omega) (by omega) _ _ _ ox0).mono ?_
    rintro e w8 ⟨rfl, om, hg⟩
    replace ow := ow.kept hg dw_x0
    replace og := og.kept hg dg_x0
    replace hB := ox0.grown_below hB bx0 hg
    clear hg ox0
    have ox0 := om
    clear om
    go_wp2_with (fail)
    refine (eqIntS_any (propsR zs s) _ _ _ og.rd ow.rd).mono ?_
    rintro e w9 ⟨rfl, hd⟩
    have hb := hd.below; clear hd
    replace ow := ow.below hb
    replace ox0 := ox0.below hb
    replace og := og.below hb
    replace hB := bvia hB hb
    clear hb
    clear ox0
    go_wp2_with (fail)
    refine (markIntS_any (propsR zs s) _ (by omega) (by omega) _ _ _ og).mono ?_
    rintro e w10 ⟨rfl, om, hg⟩
    replace ow := ow.kept hg dw_g
    replace hB := og.grown_below hB bg hg
    clear hg og
    have og := om
    clear om
    go_wp2_with (fail)
    refine (heldIntS_any (propsR zs s).length 1 (by omega) (by omega) _ _ og.rd).mono ?_
    rintro e w11 ⟨rfl, rfl⟩
    go_wp2_with (fail)
    refine (toLoanS_any zs (by omega) _ _ (hzs.below hB)).mono ?_
    rintro e w12 ⟨us0, rfl, os0, hb⟩
    have dw_s0 := dis_of ow.lt os0.lt (Nat.le_refl _)
    have ds0_w := dis_of' ow.lt os0.lt (Nat.le_refl _)
    have dg_s0 := dis_of og.lt os0.lt (Nat.le_refl _)
    have ds0_g := dis_of' og.lt os0.lt (Nat.le_refl _)
    have bs0 := hB.size
    replace ow := ow.below hb
    replace og := og.below hb
    replace hB := bvia hB hb
    clear hb
    go_wp2_with (fail)
    refine (implPropsIn_any zs s  _ _ os0.rd).mono ?_
    rintro e w13 ⟨uh, rfl, oh, hb⟩
    have dw_h := dis_of ow.lt oh.lt (Nat.le_refl _)
    have dh_w := dis_of' ow.lt oh.lt (Nat.le_refl _)
    have dg_h := dis_of og.lt oh.lt (Nat.le_refl _)
    have dh_g := dis_of' og.lt oh.lt (Nat.le_refl _)
    have ds0_h := dis_of os0.lt oh.lt (Nat.le_refl _)
    have dh_s0 := dis_of' os0.lt oh.lt (Nat.le_refl _)
    have bh := hB.size
    replace ow := ow.below hb
    replace og := og.below hb
    replace os0 := os0.below hb
    replace hB := bvia hB hb
    clear hb
    clear os0
    go_wp2_with (fail)
    refine (eqIntS_any (propsR zs s) _ _ _ oh.rd ow.rd).mono ?_
    rintro e w14 ⟨rfl, hd⟩
    have hb := hd.below; clear hd
    replace ow := ow.below hb
    replace og := og.below hb
    replace oh := oh.below hb
    replace hB := bvia hB hb
    clear hb
    go_wp2_with (fail)
    refine (heldIntS_any (propsR zs s).length 1 (by omega) (by omega) _ _ og.rd).mono ?_
    rintro e w15 ⟨rfl, rfl⟩
    go_wp2_with (fail)
    go_returns
    exact ⟨rfl, hB⟩
  · go_enter Try.func7, Try.ntmps7
    go_wp2_with (fail)
    refine (szLoanS_no _ _ _ (by have := hmxzs; omega) _ (by omega) (by omega) (by omega) _).mono ?_
    rintro e w' ⟨rfl, rfl⟩
    go_wp2_with (fail)
    go_returns
    exact ⟨rfl, Below.refl _ _⟩

/-- The scenes below n without props. -/
def emptyF (zs : List (Int × Int)) : Nat → List Int
  | 0 => []
  | n + 1 => emptyF zs n ++ if (propsR zs n).length = 0 then [(n : Int)] else []
theorem emptyF_hit {zs : List (Int × Int)} {n : Nat} (h : (propsR zs n).length = 0) : emptyF zs (n + 1) = emptyF zs n ++ [(n : Int)] := by rw [emptyF, if_pos h]
theorem emptyF_miss {zs : List (Int × Int)} {n : Nat} (h : (propsR zs n).length ≠ 0) : emptyF zs (n + 1) = emptyF zs n := by rw [emptyF, if_neg h, List.append_nil]
theorem emptyF_length (zs : List (Int × Int)) (n : Nat) : (emptyF zs n).length ≤ n := by
  induction n with
  | zero => simp [emptyF]
  | succ n ih => rw [emptyF, List.length_append]; split <;> simp <;> omega
def emptyR (zs : List (Int × Int)) (n : Int) : List Int := if loansB zs = true ∧ n ≤ 100 then emptyF zs n.toNat else []
theorem emptyR_length (zs : List (Int × Int)) (n : Int) : (emptyR zs n).length ≤ 100 := by
  unfold emptyR
  split
  · rename_i h
    have := emptyF_length zs n.toNat
    omega
  · simp
set_option maxHeartbeats 800000 in
theorem implEmptyScenes_any (zs : List (Int × Int)) (n : Int) (v : Value) (w : World) (h : RdLoan w v zs) :
    Calls Try.prog 29 #[v, .int .i64 n] w fun e w' => ∃ u, e = .returned u ∧ OwI w' w.heap.size u (emptyR zs n) ∧ Below w.heap.size w w' := by
  have cw : ∀ (x lo hi : Int) (b : Bool), inB x lo hi = b → ∀ u, Calls Try.prog 36 #[.int .i64 x, .int .i64 lo, .int .i64 hi] u fun e w' => e = .returned (.bool b) ∧ u = w' := fun x lo hi b hb u => by have := within_any x lo hi u; rwa [hb] at this
  have HR := Lib.hid h
  clear h
  by_cases hg : loansB zs = true
  · by_cases hin : inB n 0 100 = true
    · obtain ⟨n0, n1⟩ := inB_true.1 hin
      rw [show emptyR zs n = emptyF zs n.toNat from if_pos ⟨hg, n1⟩]
      go_enter Try.func29, Try.ntmps29
      go_wp2_with (fail)
      refine (implLoansOk_any zs _ _ HR.out).mono ?_
      rintro e w1 ⟨rfl, hb⟩
      go_wp2_with (fail)
      refine (cw n _ _ _ hin _).mono ?_
      rintro e w2 ⟨rfl, rfl⟩
      have hB1 := hb.alloc hb.size (.cells #[] 3)
      have HE := Lib.hid (OwI.empty w1 w.heap.size hb.size)
      go_wp2_with (fail)
      go_loopw [5, 17] (fun u i wr => ∃ (k : Nat) (A : List Int), (k : Int) ≤ n ∧ i = .int .i64 k ∧ OwI wr w.heap.size u A ∧ A.length ≤ k ∧ Below w.heap.size w wr ∧ Hid (A = emptyF zs k)) (fun _ i _ => n.toNat - (intOf i).toNat)
      case atStart => exact ⟨0, [], by omega, rfl, HE.out, by simp, hB1, rfl⟩
      case round =>
        clear HE hB1 hb
        obtain ⟨k, A, hk, rfl, ho, hA, hB, HA⟩ := hrel
        by_cases hlt : (k : Int) < n
        · go_wp2_with (fail)
          refine (implPropsIn_any zs k _ _ (HR.out.below hB)).mono ?_
          rintro e w2 ⟨u2, rfl, o2, hb2⟩
          obtain ⟨A2, cap2, rfl, _, _, _⟩ := o2.form
          clear o2
          replace ho := ho.below hb2
          replace hB := bvia hB hb2
          clear hb2
          by_cases h0 : (propsR zs k).length = 0
          · have HK : Hid (A ++ [(k : Int)] = emptyF zs (k + 1)) := by show _ = _; rw [emptyF_hit h0, HA.out]
            rw [h0]
            go_wp2_with (at_builtin; refine wpList_pushI rfl (.tmp 25) (.tmp 27) rfl _ _ w.heap.size _ _ rfl ho rfl (by omega) hB.size ?_; intro v1 w1 o1 hgr _; have hB2 := ho.grown_below hB (Nat.le_refl _) hgr; clear hgr)
            exact ⟨⟨k + 1, A ++ [(k : Int)], by omega, by go_num, o1, by simp; omega, hB2, HK⟩, by simp [intOf]; omega⟩
          · have HK : Hid (A = emptyF zs (k + 1)) := by show _ = _; rw [emptyF_miss h0, HA.out]
            have h0b : (((propsR zs k).length : Int) == 0) = false := beq_eq_false_iff_ne.2 (by omega)
            generalize (propsR zs k).length = m at h0 h0b
            go_wp2_with (fail)
            exact ⟨⟨k + 1, A, by omega, by go_num, ho, by omega, hB, HK⟩, by simp [intOf]; omega⟩
        · go_wp2
          go_ret
          obtain rfl : n.toNat = k := by omega
          have e : A = emptyF zs n.toNat := HA.out
          exact ⟨_, rfl, by rw [← e]; exact ho, hB⟩
    · have hin' : inB n 0 100 = false := by simpa using hin
      have he : emptyR zs n = [] := by
        unfold emptyR
        split
        · rename_i h1
          have h2 := inB_false.1 hin'
          have h3 : n.toNat = 0 := by omega
          rw [h3]; rfl
        · rfl
      rw [he]
      clear hin he
      go_enter Try.func29, Try.ntmps29
      go_wp2_with (fail)
      refine (implLoansOk_any zs _ _ HR.out).mono ?_
      rintro e w1 ⟨rfl, hb⟩
      go_wp2_with (fail)
      refine (cw n _ _ _ hin' _).mono ?_
      rintro e w2 ⟨rfl, rfl⟩
      go_wp2_with (fail)
      go_ret
      exact ⟨_, rfl, OwI.nil _ _, hb⟩
  · have hg' : loansB zs = false := by simpa using hg
    rw [show emptyR zs n = [] from if_neg (fun h => hg h.1)]
    clear hg
    go_enter Try.func29, Try.ntmps29
    go_wp2_with (fail)
    refine (implLoansOk_any zs _ _ HR.out).mono ?_
    rintro e w1 ⟨rfl, hb⟩
    go_wp2_with (fail)
    go_ret
    exact ⟨_, rfl, OwI.nil _ _, hb⟩
set_option maxHeartbeats 800000 in
theorem specEmptyScenes_any (zs : List (Int × Int)) (n : Int) (v : Value) (w : World) (h : RdLoan w v zs) :
    Calls Try.prog 28 #[v, .int .i64 n] w fun e w' => ∃ u, e = .returned u ∧ OwI w' w.heap.size u (emptyR zs n) ∧ Below w.heap.size w w' := by
  have HR := Lib.hid h
  clear h
  have hB0 := below_alloc1 w (.cells #[] 3)
  have HE := Lib.hid (OwI.empty w w.heap.size (Nat.le_refl _))
  go_enter Try.func28, Try.ntmps28
  go_wp2_with (fail)
  go_loopw [5, 6] (fun u i wr => ∃ (k : Nat) (A : List Int), k ≤ n.toNat ∧ (k = 0 ∨ (loansB zs = true ∧ n ≤ 100)) ∧ i = .int .i64 k ∧ OwI wr w.heap.size u A ∧ A.length ≤ k ∧ Below w.heap.size w wr ∧ Hid (A = emptyF zs k)) (fun _ i _ => n.toNat - (intOf i).toNat)
  case atStart => exact ⟨0, [], by omega, .inl rfl, rfl, HE.out, by simp, hB0, rfl⟩
  case round =>
    clear HE hB0
    obtain ⟨k, A, hk, hok, rfl, ho, hA, hB, HA⟩ := hrel
    by_cases hlt : (k : Int) < n
    · by_cases hn : n ≤ 100
      · by_cases hg : loansB zs = true
        · clear hok
          go_wp2_with (fail)
          refine (specLoansOk_b zs _ _ (HR.out.below hB)).mono ?_
          rintro e w1 ⟨rfl, hd⟩
          replace ho := ho.below hd
          replace hB := bvia hB hd
          clear hd
          go_wp2_with (fail)
          refine (specPropsIn_any zs k _ _ (HR.out.below hB)).mono ?_
          rintro e w2 ⟨u2, rfl, o2, hb2⟩
          obtain ⟨A2, cap2, rfl, _, _, _⟩ := o2.form
          clear o2
          replace ho := ho.below hb2
          replace hB := bvia hB hb2
          clear hb2
          by_cases h0 : (propsR zs k).length = 0
          · have HK : Hid (A ++ [(k : Int)] = emptyF zs (k + 1)) := by show _ = _; rw [emptyF_hit h0, HA.out]
            rw [h0]
            go_wp2_with (at_builtin; refine wpList_pushI rfl (.tmp 26) (.tmp 28) rfl _ _ w.heap.size _ _ rfl ho rfl (by omega) hB.size ?_; intro v1 w1 o1 hgr _; have hB2 := ho.grown_below hB (Nat.le_refl _) hgr; clear hgr)
            exact ⟨⟨k + 1, A ++ [(k : Int)], by omega, .inr ⟨hg, hn⟩, by go_num, o1, by simp; omega, hB2, HK⟩, by simp [intOf]; omega⟩
          · have HK : Hid (A = emptyF zs (k + 1)) := by show _ = _; rw [emptyF_miss h0, HA.out]
            have h0b : (((propsR zs k).length : Int) == 0) = false := beq_eq_false_iff_ne.2 (by omega)
            generalize (propsR zs k).length = m at h0 h0b
            go_wp2_with (fail)
            exact ⟨⟨k + 1, A, by omega, .inr ⟨hg, hn⟩, by go_num, ho, by omega, hB, HK⟩, by simp [intOf]; omega⟩
        · obtain rfl : k = 0 := by rcases hok with h | h; exact h; exact absurd h.1 hg
          have hg' : loansB zs = false := by simpa using hg
          have he : A = emptyR zs n := by rw [HA.out, emptyR, if_neg (fun h => hg h.1)]; rfl
          have HK := Lib.hid he
          clear hok he hg
          go_wp2_with (fail)
          refine (specLoansOk_b zs _ _ (HR.out.below hB)).mono ?_
          rintro e w1 ⟨rfl, hd⟩
          replace ho := ho.below hd
          replace hB := bvia hB hd
          clear hd
          go_wp2_with (fail)
          go_ret
          exact ⟨_, rfl, by rw [← HK.out]; exact ho, hB⟩
      · obtain rfl : k = 0 := by rcases hok with h | h; exact h; exact absurd h.2 hn
        have he : A = emptyR zs n := by rw [HA.out, emptyR, if_neg (fun h => hn h.2)]; rfl
        have HK := Lib.hid he
        clear hok he
        go_wp2_with (fail)
        go_ret
        exact ⟨_, rfl, by rw [← HK.out]; exact ho, hB⟩
    · obtain rfl : k = n.toNat := by omega
      have he : A = emptyR zs n := by
        rw [HA.out, emptyR]
        split
        · rfl
        · rename_i h
          rcases hok with h1 | h1
          · rw [h1]; rfl
          · exact absurd h1 h
      have HK := Lib.hid he
      clear hok he
      have hlt' : ¬ ((n.toNat : Int) < n) := hlt
      go_wp2
      go_ret
      exact ⟨_, rfl, by rw [← HK.out]; exact ho, hB⟩

theorem walkFnExactEmptyScenes (zs : List (Int × Int)) (n : Int) (vzs : Value) (w : World) (hzs : RdLoan w vzs zs) : Calls Try.prog 8 #[vzs, .int .i64 n] w fun e w' => e = .returned (.bool true) ∧ Below w.heap.size w w' := by
  have hmxzs : zs.length ≤ 9223372036854775807 := by obtain ⟨_, _, _, _, _, h1, h2, _⟩ := hzs.open; omega
  obtain ⟨azs, capzs, rfl⟩ := hzs.shape
  by_cases hlzs : zs.length ≤ 1048576
  · skip
    have hB := Below.refl w.heap.size w
    have hyl := emptyR_length zs n
    go_enter Try.func8, Try.ntmps8
    go_wp2_with (fail)
    refine (szLoanS_ok _ _ _ _ (by omega) (by omega) _).mono ?_
    rintro e w' ⟨rfl, rfl⟩
    go_wp2_with (fail)
    refine (toLoanS_any zs (by omega) _ _ (hzs.below hB)).mono ?_
    rintro e w1 ⟨ut0, rfl, ot0, hb⟩
    have bt0 := hB.size
    replace hB := bvia hB hb
    clear hb
    go_wp2_with (fail)
    refine (specEmptyScenes_any zs n  _ _ ot0.rd).mono ?_
    rintro e w2 ⟨uw, rfl, ow, hb⟩
    have dt0_w := dis_of ot0.lt ow.lt (Nat.le_refl _)
    have dw_t0 := dis_of' ot0.lt ow.lt (Nat.le_refl _)
    have bw := hB.size
    replace ot0 := ot0.below hb
    replace hB := bvia hB hb
    clear hb
    clear ot0
    go_wp2_with (fail)
    refine (toLoanS_any zs (by omega) _ _ (hzs.below hB)).mono ?_
    rintro e w3 ⟨ux0, rfl, ox0, hb⟩
    have dw_x0 := dis_of ow.lt ox0.lt (Nat.le_refl _)
    have dx0_w := dis_of' ow.lt ox0.lt (Nat.le_refl _)
    have bx0 := hB.size
    replace ow := ow.below hb
    replace hB := bvia hB hb
    clear hb
    go_wp2_with (fail)
    refine (implEmptyScenes_any zs n  _ _ ox0.rd).mono ?_
    rintro e w4 ⟨ug, rfl, og, hb⟩
    have dw_g := dis_of ow.lt og.lt (Nat.le_refl _)
    have dg_w := dis_of' ow.lt og.lt (Nat.le_refl _)
    have dx0_g := dis_of ox0.lt og.lt (Nat.le_refl _)
    have dg_x0 := dis_of' ox0.lt og.lt (Nat.le_refl _)
    have bg := hB.size
    replace ow := ow.below hb
    replace ox0 := ox0.below hb
    replace hB := bvia hB hb
    clear hb
    go_wp2_with (fail)
    refine (eqIntS_any (emptyR zs n) _ _ _ og.rd ow.rd).mono ?_
    rintro e w5 ⟨rfl, hd⟩
    have hb := hd.below; clear hd
    replace ow := ow.below hb
    replace ox0 := ox0.below hb
    replace og := og.below hb
    replace hB := bvia hB hb
    clear hb
    go_wp2_with (fail)
    refine (toLoanS_any zs (by omega) _ _ (hzs.below hB)).mono ?_
    rintro e w6 ⟨uy0, rfl, oy0, hb⟩
    have dw_y0 := dis_of ow.lt oy0.lt (Nat.le_refl _)
    have dy0_w := dis_of' ow.lt oy0.lt (Nat.le_refl _)
    have dx0_y0 := dis_of ox0.lt oy0.lt (Nat.le_refl _)
    have dy0_x0 := dis_of' ox0.lt oy0.lt (Nat.le_refl _)
    have dg_y0 := dis_of og.lt oy0.lt (Nat.le_refl _)
    have dy0_g := dis_of' og.lt oy0.lt (Nat.le_refl _)
    have by0 := hB.size
    replace ow := ow.below hb
    replace ox0 := ox0.below hb
    replace og := og.below hb
    replace hB := bvia hB hb
    clear hb
    go_wp2_with (fail)
    refine (eqLoanS_any zs _ _ _ ox0.rd oy0.rd).mono ?_
    rintro e w7 ⟨rfl, hb⟩
    replace ow := ow.below hb
    replace ox0 := ox0.below hb
    replace og := og.below hb
    replace oy0 := oy0.below hb
    replace hB := bvia hB hb
    clear hb
    clear oy0
    go_wp2_with (fail)
    refine (markLoanS_any zs _ (by omega) (by omega) _ _ _ ox0).mono ?_
    rintro e w8 ⟨rfl, om, hg⟩
    replace ow := ow.kept hg dw_x0
    replace og := og.kept hg dg_x0
    replace hB := ox0.grown_below hB bx0 hg
    clear hg ox0
    have ox0 := om
    clear om
    go_wp2_with (fail)
    refine (eqIntS_any (emptyR zs n) _ _ _ og.rd ow.rd).mono ?_
    rintro e w9 ⟨rfl, hd⟩
    have hb := hd.below; clear hd
    replace ow := ow.below hb
    replace ox0 := ox0.below hb
    replace og := og.below hb
    replace hB := bvia hB hb
    clear hb
    clear ox0
    go_wp2_with (fail)
    refine (markIntS_any (emptyR zs n) _ (by omega) (by omega) _ _ _ og).mono ?_
    rintro e w10 ⟨rfl, om, hg⟩
    replace ow := ow.kept hg dw_g
    replace hB := og.grown_below hB bg hg
    clear hg og
    have og := om
    clear om
    go_wp2_with (fail)
    refine (heldIntS_any (emptyR zs n).length 1 (by omega) (by omega) _ _ og.rd).mono ?_
    rintro e w11 ⟨rfl, rfl⟩
    go_wp2_with (fail)
    refine (toLoanS_any zs (by omega) _ _ (hzs.below hB)).mono ?_
    rintro e w12 ⟨us0, rfl, os0, hb⟩
    have dw_s0 := dis_of ow.lt os0.lt (Nat.le_refl _)
    have ds0_w := dis_of' ow.lt os0.lt (Nat.le_refl _)
    have dg_s0 := dis_of og.lt os0.lt (Nat.le_refl _)
    have ds0_g := dis_of' og.lt os0.lt (Nat.le_refl _)
    have bs0 := hB.size
    replace ow := ow.below hb
    replace og := og.below hb
    replace hB := bvia hB hb
    clear hb
    go_wp2_with (fail)
    refine (implEmptyScenes_any zs n  _ _ os0.rd).mono ?_
    rintro e w13 ⟨uh, rfl, oh, hb⟩
    have dw_h := dis_of ow.lt oh.lt (Nat.le_refl _)
    have dh_w := dis_of' ow.lt oh.lt (Nat.le_refl _)
    have dg_h := dis_of og.lt oh.lt (Nat.le_refl _)
    have dh_g := dis_of' og.lt oh.lt (Nat.le_refl _)
    have ds0_h := dis_of os0.lt oh.lt (Nat.le_refl _)
    have dh_s0 := dis_of' os0.lt oh.lt (Nat.le_refl _)
    have bh := hB.size
    replace ow := ow.below hb
    replace og := og.below hb
    replace os0 := os0.below hb
    replace hB := bvia hB hb
    clear hb
    clear os0
    go_wp2_with (fail)
    refine (eqIntS_any (emptyR zs n) _ _ _ oh.rd ow.rd).mono ?_
    rintro e w14 ⟨rfl, hd⟩
    have hb := hd.below; clear hd
    replace ow := ow.below hb
    replace og := og.below hb
    replace oh := oh.below hb
    replace hB := bvia hB hb
    clear hb
    go_wp2_with (fail)
    refine (heldIntS_any (emptyR zs n).length 1 (by omega) (by omega) _ _ og.rd).mono ?_
    rintro e w15 ⟨rfl, rfl⟩
    go_wp2_with (fail)
    go_returns
    exact ⟨rfl, hB⟩
  · go_enter Try.func8, Try.ntmps8
    go_wp2_with (fail)
    refine (szLoanS_no _ _ _ (by have := hmxzs; omega) _ (by omega) (by omega) (by omega) _).mono ?_
    rintro e w' ⟨rfl, rfl⟩
    go_wp2_with (fail)
    go_returns
    exact ⟨rfl, Below.refl _ _⟩
end Go.Proofs.Ytgfpnadjkemafaa
