/- The walks of LongestRun and KeepsRest. -/
import Derived.Test.YteakfhmkaioaeaaRest
namespace Go.Proofs.Yteakfhmkaioaeaa
open Go.ChangeShapes Go.WideShapes Go.ChangeAt Go.RowKit Go.Joins
set_option linter.unusedSimpArgs false
set_option linter.unusedVariables false

/-- The greatest run; p: the element before, n: the run that ends there, b: the greatest till now. -/
def runF : Option Int → List Int → Int → Int → Int
  | _, [], _, b => b
  | p, x :: r, n, b => if p = some (x - 1) then runF (some x) r (n + 1) (max b (n + 1)) else runF (some x) r 1 (max b 1)
theorem runF_hit {p : Option Int} {x : Int} (r : List Int) (n b : Int) (h : p = some (x - 1)) : runF p (x :: r) n b = runF (some x) r (n + 1) (max b (n + 1)) := if_pos h
theorem runF_miss {p : Option Int} {x : Int} (r : List Int) (n b : Int) (h : p ≠ some (x - 1)) : runF p (x :: r) n b = runF (some x) r 1 (max b 1) := if_neg h
def longestRun (zs : List Int) : Int := if seasonB zs = true then runF none zs 0 0 else -1
/-- The element ahead of place k. -/
def prevOf (zs : List Int) (k : Nat) : Option Int := if k = 0 then none else some (zs.getD (k - 1) 0)
theorem prevOf_succ (zs : List Int) (k : Nat) : prevOf zs (k + 1) = some (zs.getD k 0) := by simp [prevOf]
theorem prevOf_pos (zs : List Int) {k : Nat} (h : 0 < k) : prevOf zs k = some (zs.getD (k - 1) 0) := if_neg (by omega)
theorem specLongestRun_any (zs : List Int) (v : Value) (w : World) (h : RdI w v zs) : Calls Try.prog 29 #[v] w fun e w' => e = .returned (.int .i64 (longestRun zs)) ∧ Dr w w' := by
  have HR := Lib.hid h
  obtain ⟨ad, cap, bl, off, hv, hcap, hmax, had, hc⟩ := h.open
  subst hv
  have HC := Lib.hid hc
  clear h hc
  by_cases hg : seasonB zs = true
  · have hp : longestRun zs = runF none zs 0 0 := if_pos hg
    rw [hp]
    clear hp
    obtain ⟨hl60, hm, _⟩ := season_mem hg
    have HM := Lib.hid hm
    clear hm
    go_enter Try.func29, Try.ntmps29
    go_wp2_with (go_at_call 15; refine (specSeasonOk_any zs _ _ HR.out).mono ?_; rintro e w1 ⟨rfl, hd⟩)
    go_loopw [3, 4, 5] (fun b n i wr => ∃ (k : Nat) (q r : Int), k ≤ zs.length ∧ i = .int .i64 k ∧ b = .int .i64 q ∧ n = .int .i64 r ∧ 0 ≤ r ∧ r ≤ k ∧ Dr w wr ∧ Hid (runF (prevOf zs k) (zs.drop k) r q = runF none zs 0 0)) (fun _ _ i _ => zs.length - (intOf i).toNat)
    case atStart => exact ⟨0, 0, 0, by omega, rfl, rfl, rfl, by omega, by omega, hd, rfl⟩
    case round =>
      obtain ⟨k, q, r, hk, rfl, rfl, rfl, hr0, hrk, hD, H⟩ := hrel
      by_cases hlt : k < zs.length
      · obtain rfl := had (by omega)
        by_cases hk0 : 0 < k
        · obtain ⟨x, y, hck, hcl, hx, hy, HX⟩ : ∃ x y, wr.cell? ⟨bl, off + k, none⟩ = some (.int .i64 x) ∧ wr.cell? ⟨bl, off + (k - 1), none⟩ = some (.int .i64 y) ∧ (0 ≤ x ∧ x ≤ 365) ∧ (0 ≤ y ∧ y ≤ 365) ∧ Hid (prevOf zs k = some y ∧ zs.drop k = x :: zs.drop (k + 1) ∧ prevOf zs (k + 1) = some x) :=
            ⟨_, _, hD.cell (HC.out k hlt), hD.cell (HC.out (k - 1) (by omega)), HM.out _ (getD_mem hlt), HM.out _ (getD_mem (by omega)), prevOf_pos zs hk0, drop_one hlt, prevOf_succ zs k⟩
          obtain ⟨hx0, hx1⟩ := hx
          obtain ⟨hy0, hy1⟩ := hy
          have q1 : (k : Int) < (zs.length : Int) := by omega
          have q2 : IntKind.i64.wrap ((k : Int) - 1) = (k : Int) - 1 := IntWalk.i64_in _ (by omega)
          have q3 : (1 : Int) ≤ (k : Int) := by omega
          have q4 : (k : Int) - 1 < (zs.length : Int) := by omega
          have q5 : ((k : Int) - 1).toNat = k - 1 := by omega
          have q6 : 1 ≤ k := by omega
          go_wp2
          go_quiet (fail)
          clear q1 q2 q3 q4 q5 q6
          go_wp2
          · have ht : x = y + 1 := by simpa using ‹(x == y + 1) = true›
            exact ⟨⟨k + 1, _, _, by omega, by go_num, rfl, rfl, by omega, by omega, hD.next _, by show _ = _; (try simp only [ite_max]); rw [← H.out, HX.out.1, HX.out.2.1, HX.out.2.2, runF_hit _ _ _ (congrArg some (by omega))]⟩, by simp [intOf]; omega⟩
          · have ht : ¬ (x = y + 1) := by simpa using ‹(x == y + 1) = false›
            exact ⟨⟨k + 1, _, _, by omega, by go_num, rfl, rfl, by omega, by omega, hD.next _, by show _ = _; (try simp only [ite_max]); rw [← H.out, HX.out.1, HX.out.2.1, HX.out.2.2, runF_miss _ _ _ (by intro e; injection e; omega)]⟩, by simp [intOf]; omega⟩
        · obtain rfl : k = 0 := by omega
          obtain ⟨x, hck, HX⟩ : ∃ x, wr.cell? ⟨bl, off, none⟩ = some (.int .i64 x) ∧ Hid (zs.drop 0 = x :: zs.drop (0 + 1) ∧ prevOf zs (0 + 1) = some x) :=
            ⟨_, hD.cell (HC.out 0 hlt), drop_one hlt, prevOf_succ zs 0⟩
          have q0 : decide (0 < (0 : Int)) = false := rfl
          go_wp2
          go_quiet (fail)
          go_wp2
          exact ⟨⟨1, _, _, by omega, by go_num, rfl, rfl, by omega, by omega, hD.next _, by show runF (prevOf zs (0 + 1)) (zs.drop (0 + 1)) _ _ = _; (try simp only [ite_max]); rw [← H.out, HX.out.1, HX.out.2, runF_miss _ _ _ (by simp [prevOf])]⟩, by simp [intOf]; omega⟩
      · go_wp2
        go_ret
        obtain rfl : k = zs.length := by omega
        exact ⟨ret_int (by rw [← H.out, List.drop_length]; rfl), hD⟩
  · have hp : longestRun zs = -1 := if_neg hg
    rw [hp]
    clear hp
    go_enter Try.func29, Try.ntmps29
    go_wp2_with (go_at_call 15; refine (specSeasonOk_any zs _ _ HR.out).mono ?_; rintro e w1 ⟨rfl, hd⟩)
    all_goals first | (exfalso; simp_all; done) | (go_ret; exact ⟨rfl, hd⟩)
theorem implLongestRun_any (zs : List Int) (v : Value) (w : World) (h : RdI w v zs) : Calls Try.prog 30 #[v] w fun e w' => e = .returned (.int .i64 (longestRun zs)) ∧ Dr w w' := by
  have HR := Lib.hid h
  obtain ⟨ad, cap, bl, off, hv, hcap, hmax, had, hc⟩ := h.open
  subst hv
  have HC := Lib.hid hc
  clear h hc
  by_cases hg : seasonB zs = true
  · have hp : longestRun zs = runF none zs 0 0 := if_pos hg
    rw [hp]
    clear hp
    obtain ⟨hl60, hm, _⟩ := season_mem hg
    have HM := Lib.hid hm
    clear hm
    go_enter Try.func30, Try.ntmps30
    go_wp2_with (go_at_call 17; refine (implSeasonOk_any zs _ _ HR.out).mono ?_; rintro e w1 ⟨rfl, hd⟩)
    go_loopw [3, 4, 12] (fun b n i wr => ∃ (k : Nat) (q r : Int), k ≤ zs.length ∧ i = .int .i64 k ∧ b = .int .i64 q ∧ n = .int .i64 r ∧ 0 ≤ r ∧ r ≤ k ∧ Dr w wr ∧ Hid (runF (prevOf zs k) (zs.drop k) r q = runF none zs 0 0)) (fun _ _ i _ => zs.length - (intOf i).toNat)
    case atStart => exact ⟨0, 0, 0, by omega, rfl, rfl, rfl, by omega, by omega, hd, rfl⟩
    case round =>
      obtain ⟨k, q, r, hk, rfl, rfl, rfl, hr0, hrk, hD, H⟩ := hrel
      by_cases hlt : k < zs.length
      · obtain rfl := had (by omega)
        by_cases hk0 : 0 < k
        · obtain ⟨x, y, hck, hcl, hx, hy, HX⟩ : ∃ x y, wr.cell? ⟨bl, off + k, none⟩ = some (.int .i64 x) ∧ wr.cell? ⟨bl, off + (k - 1), none⟩ = some (.int .i64 y) ∧ (0 ≤ x ∧ x ≤ 365) ∧ (0 ≤ y ∧ y ≤ 365) ∧ Hid (prevOf zs k = some y ∧ zs.drop k = x :: zs.drop (k + 1) ∧ prevOf zs (k + 1) = some x) :=
            ⟨_, _, hD.cell (HC.out k hlt), hD.cell (HC.out (k - 1) (by omega)), HM.out _ (getD_mem hlt), HM.out _ (getD_mem (by omega)), prevOf_pos zs hk0, drop_one hlt, prevOf_succ zs k⟩
          obtain ⟨hx0, hx1⟩ := hx
          obtain ⟨hy0, hy1⟩ := hy
          have q1 : (k : Int) < (zs.length : Int) := by omega
          have q2 : IntKind.i64.wrap ((k : Int) - 1) = (k : Int) - 1 := IntWalk.i64_in _ (by omega)
          have q3 : (1 : Int) ≤ (k : Int) := by omega
          have q4 : (k : Int) - 1 < (zs.length : Int) := by omega
          have q5 : ((k : Int) - 1).toNat = k - 1 := by omega
          have q6 : 1 ≤ k := by omega
          go_wp2
          clear q1 q2 q3 q4 q5 q6
          go_wp2
          · have ht : y = x - 1 := by simpa using ‹(y == x - 1) = true›
            exact ⟨⟨k + 1, _, _, by omega, by go_num, rfl, rfl, by omega, by omega, hD, by show _ = _; (try simp only [ite_max]); rw [← H.out, HX.out.1, HX.out.2.1, HX.out.2.2, runF_hit _ _ _ (congrArg some (by omega))]⟩, by simp [intOf]; omega⟩
          · have ht : ¬ (y = x - 1) := by simpa using ‹(y == x - 1) = false›
            exact ⟨⟨k + 1, _, _, by omega, by go_num, rfl, rfl, by omega, by omega, hD, by show _ = _; (try simp only [ite_max]); rw [← H.out, HX.out.1, HX.out.2.1, HX.out.2.2, runF_miss _ _ _ (by intro e; injection e; omega)]⟩, by simp [intOf]; omega⟩
        · obtain rfl : k = 0 := by omega
          obtain ⟨x, hck, HX⟩ : ∃ x, wr.cell? ⟨bl, off, none⟩ = some (.int .i64 x) ∧ Hid (zs.drop 0 = x :: zs.drop (0 + 1) ∧ prevOf zs (0 + 1) = some x) :=
            ⟨_, hD.cell (HC.out 0 hlt), drop_one hlt, prevOf_succ zs 0⟩
          have q0 : decide (0 < (0 : Int)) = false := rfl
          go_wp2
          go_wp2
          exact ⟨⟨1, _, _, by omega, by go_num, rfl, rfl, by omega, by omega, hD, by show runF (prevOf zs (0 + 1)) (zs.drop (0 + 1)) _ _ = _; (try simp only [ite_max]); rw [← H.out, HX.out.1, HX.out.2, runF_miss _ _ _ (by simp [prevOf])]⟩, by simp [intOf]; omega⟩
      · go_wp2
        go_ret
        obtain rfl : k = zs.length := by omega
        exact ⟨ret_int (by rw [← H.out, List.drop_length]; rfl), hD⟩
  · have hp : longestRun zs = -1 := if_neg hg
    rw [hp]
    clear hp
    go_enter Try.func30, Try.ntmps30
    go_wp2_with (go_at_call 17; refine (implSeasonOk_any zs _ _ HR.out).mono ?_; rintro e w1 ⟨rfl, hd⟩)
    all_goals first | (exfalso; simp_all; done) | (go_ret; exact ⟨rfl, hd⟩)
theorem walkFnExactLongestRun (zs : List Int) (vzs : Value) (w : World) (hzs : RdI w vzs zs) : Calls Try.prog 8 #[vzs] w fun e w' => e = .returned (.bool true) ∧ Below w.heap.size w w' := by
  obtain ⟨azs, capzs, rfl⟩ := hzs.shape
  by_cases hlzs : zs.length ≤ 1048576
  · skip
    have hB := Below.refl w.heap.size w
    go_enter Try.func8, Try.ntmps8
    go_wp2_with (fail)
    refine (toIntS_any zs hlzs _ _ (hzs.below hB)).mono ?_
    rintro e w1 ⟨ut0, rfl, ot0, hb⟩
    have bt0 := hB.size
    replace hB := bvia hB hb
    clear hb
    go_wp2_with (fail)
    refine (specLongestRun_any zs  _ _ ot0.rd).mono ?_
    rintro e w2 ⟨rfl, hd⟩
    have hb := hd.below; clear hd
    replace ot0 := ot0.below hb
    replace hB := bvia hB hb
    clear hb
    clear ot0
    go_wp2_with (fail)
    refine (toIntS_any zs hlzs _ _ (hzs.below hB)).mono ?_
    rintro e w3 ⟨ux0, rfl, ox0, hb⟩
    have bx0 := hB.size
    replace hB := bvia hB hb
    clear hb
    go_wp2_with (fail)
    refine (implLongestRun_any zs  _ _ ox0.rd).mono ?_
    rintro e w4 ⟨rfl, hd⟩
    have hb := hd.below; clear hd
    replace ox0 := ox0.below hb
    replace hB := bvia hB hb
    clear hb
    go_wp2_with (fail)
    refine (toIntS_any zs hlzs _ _ (hzs.below hB)).mono ?_
    rintro e w5 ⟨uy0, rfl, oy0, hb⟩
    have dx0_y0 := ox0.dis oy0 (Nat.le_refl _)
    have dy0_x0 := ox0.dis' oy0 (Nat.le_refl _)
    have by0 := hB.size
    replace ox0 := ox0.below hb
    replace hB := bvia hB hb
    clear hb
    go_wp2_with (fail)
    refine (eqIntS_any zs _ _ _ ox0.rd oy0.rd).mono ?_
    rintro e w6 ⟨rfl, hd⟩
    have hb := hd.below; clear hd
    replace ox0 := ox0.below hb
    replace oy0 := oy0.below hb
    replace hB := bvia hB hb
    clear hb
    clear oy0
    go_wp2_with (fail)
    go_returns
    exact ⟨rfl, hB⟩
  · go_enter Try.func8, Try.ntmps8
    go_wp2_with (fail)
    go_returns
    exact ⟨rfl, Below.refl _ _⟩

def keepsRest (zs : List Int) (m : Int) : Bool := seasonB zs && inB m 1 60 && decide (longestRun zs ≤ m)
theorem specKeepsRest_any (zs : List Int) (m : Int) (v : Value) (w : World) (h : RdI w v zs) : Calls Try.prog 33 #[v, .int .i64 m] w fun e w' => e = .returned (.bool (keepsRest zs m)) ∧ Dr w w' := by
  have hD := Dr.refl w
  go_enter Try.func33, Try.ntmps33
  go_wp2_with (first
    | (go_at_call 15; refine (specSeasonOk_any zs _ _ h).mono ?_; rintro e w1 ⟨rfl, hd1⟩; replace hD := hD.trans hd1)
    | (go_at_call 48; refine (l01In_any _ _ _ _).mono ?_; rintro e w' ⟨rfl, rfl⟩)
    | (go_at_call 29; refine (specLongestRun_any zs _ _ (h.dr hD)).mono ?_; rintro e w2 ⟨rfl, hd2⟩; replace hD := hD.trans hd2))

  all_goals (go_ret; exact ⟨ret_bool (by simp [keepsRest, *]), hD⟩)
theorem implKeepsRest_any (zs : List Int) (m : Int) (v : Value) (w : World) (h : RdI w v zs) : Calls Try.prog 34 #[v, .int .i64 m] w fun e w' => e = .returned (.bool (keepsRest zs m)) ∧ Dr w w' := by
  have hD := Dr.refl w
  go_enter Try.func34, Try.ntmps34
  go_wp2_with (first
    | (go_at_call 17; refine (implSeasonOk_any zs _ _ h).mono ?_; rintro e w1 ⟨rfl, hd1⟩; replace hD := hD.trans hd1)
    | (go_at_call 50; refine (within_any _ _ _ _).mono ?_; rintro e w' ⟨rfl, rfl⟩)
    | (go_at_call 30; refine (implLongestRun_any zs _ _ (h.dr hD)).mono ?_; rintro e w2 ⟨rfl, hd2⟩; replace hD := hD.trans hd2))

  all_goals (go_ret; exact ⟨ret_bool (by simp [keepsRest, *]), hD⟩)
theorem walkFnExactKeepsRest (zs : List Int) (m : Int) (vzs : Value) (w : World) (hzs : RdI w vzs zs) : Calls Try.prog 10 #[vzs, .int .i64 m] w fun e w' => e = .returned (.bool true) ∧ Below w.heap.size w w' := by
  obtain ⟨azs, capzs, rfl⟩ := hzs.shape
  by_cases hlzs : zs.length ≤ 1048576
  · skip
    have hB := Below.refl w.heap.size w
    go_enter Try.func10, Try.ntmps10
    go_wp2_with (fail)
    refine (toIntS_any zs hlzs _ _ (hzs.below hB)).mono ?_
    rintro e w1 ⟨ut0, rfl, ot0, hb⟩
    have bt0 := hB.size
    replace hB := bvia hB hb
    clear hb
    go_wp2_with (fail)
    refine (specKeepsRest_any zs m  _ _ ot0.rd).mono ?_
    rintro e w2 ⟨rfl, hd⟩
    have hb := hd.below; clear hd
    replace ot0 := ot0.below hb
    replace hB := bvia hB hb
    clear hb
    clear ot0
    go_wp2_with (fail)
    refine (toIntS_any zs hlzs _ _ (hzs.below hB)).mono ?_
    rintro e w3 ⟨ux0, rfl, ox0, hb⟩
    have bx0 := hB.size
    replace hB := bvia hB hb
    clear hb
    go_wp2_with (fail)
    refine (implKeepsRest_any zs m  _ _ ox0.rd).mono ?_
    rintro e w4 ⟨rfl, hd⟩
    have hb := hd.below; clear hd
    replace ox0 := ox0.below hb
    replace hB := bvia hB hb
    clear hb
    go_wp2_with (fail)
    refine (toIntS_any zs hlzs _ _ (hzs.below hB)).mono ?_
    rintro e w5 ⟨uy0, rfl, oy0, hb⟩
    have dx0_y0 := ox0.dis oy0 (Nat.le_refl _)
    have dy0_x0 := ox0.dis' oy0 (Nat.le_refl _)
    have by0 := hB.size
    replace ox0 := ox0.below hb
    replace hB := bvia hB hb
    clear hb
    go_wp2_with (fail)
    refine (eqIntS_any zs _ _ _ ox0.rd oy0.rd).mono ?_
    rintro e w6 ⟨rfl, hd⟩
    have hb := hd.below; clear hd
    replace ox0 := ox0.below hb
    replace oy0 := oy0.below hb
    replace hB := bvia hB hb
    clear hb
    clear oy0
    go_wp2_with (fail)
    go_returns
    exact ⟨rfl, hB⟩
  · go_enter Try.func10, Try.ntmps10
    go_wp2_with (fail)
    go_returns
    exact ⟨rfl, Below.refl _ _⟩
end Go.Proofs.Yteakfhmkaioaeaa
