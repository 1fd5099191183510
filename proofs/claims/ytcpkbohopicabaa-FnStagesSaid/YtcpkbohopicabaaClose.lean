/- The walks of CloseEnough: the pairs of spots that are close to each other. -/
import Derived.Test.YtcpkbohopicabaaSSH
import Derived.Test.YtcpkbohopicabaaStepsB
import Derived.Test.YtcpkbohopicabaaHlSpot
namespace Go.Proofs.Ytcpkbohopicabaa
open Go.ChangeShapes Go.WideShapes Go.ChangeAt Go.RowKit Go.Joins
set_option linter.unusedSimpArgs false
set_option linter.unusedVariables false

abbrev LS := List (Int × Int)
def stepsAt (zs : LS) (i k : Nat) : Int := stepsBetween (zs.getD i (0, 0)).1 (zs.getD i (0, 0)).2 (zs.getD k (0, 0)).1 (zs.getD k (0, 0)).2
def nearB (zs : LS) (m : Int) (i k : Nat) : Bool := decide (0 ≤ stepsAt zs i k) && decide (stepsAt zs i k ≤ m)
theorem stepsBetween_ge (a b c d : Int) : -1 ≤ stepsBetween a b c d := by
  unfold stepsBetween
  split <;> omega
def rowF (zs : LS) (m : Int) (i : Nat) : Nat → Nat → LL
  | _, 0 => []
  | k, n + 1 => (if nearB zs m i k = true then [[(i : Int), (k : Int)]] else []) ++ rowF zs m i (k + 1) n
def pairsF (zs : LS) (m : Int) : Nat → Nat → LL
  | _, 0 => []
  | i, n + 1 => rowF zs m i (i + 1) (zs.length - (i + 1)) ++ pairsF zs m (i + 1) n
def closeF (zs : LS) (m : Int) : LL := if zs.length ≤ 7 then pairsF zs m 0 zs.length else []
theorem rowF_step (zs : LS) (m : Int) (i : Nat) {k : Nat} (h : k < zs.length) : rowF zs m i k (zs.length - k) = (if nearB zs m i k = true then [[(i : Int), (k : Int)]] else []) ++ rowF zs m i (k + 1) (zs.length - (k + 1)) := by
  rw [show zs.length - k = (zs.length - (k + 1)) + 1 by omega]
  rfl
theorem rowF_end (zs : LS) (m : Int) (i : Nat) : rowF zs m i zs.length (zs.length - zs.length) = [] := by rw [Nat.sub_self]; rfl
theorem rowF_over (zs : LS) (m : Int) (i : Nat) {k : Nat} (h : zs.length ≤ k) : rowF zs m i k (zs.length - k) = [] := by rw [Nat.sub_eq_zero_of_le h]; rfl
theorem pairsF_step (zs : LS) (m : Int) {i : Nat} (h : i < zs.length) : pairsF zs m i (zs.length - i) = rowF zs m i (i + 1) (zs.length - (i + 1)) ++ pairsF zs m (i + 1) (zs.length - (i + 1)) := by
  rw [show zs.length - i = (zs.length - (i + 1)) + 1 by omega]
  rfl
theorem pairsF_end (zs : LS) (m : Int) {i : Nat} (h : zs.length ≤ i) : pairsF zs m i (zs.length - i) = [] := by rw [Nat.sub_eq_zero_of_le h]; rfl
theorem rowF_len (zs : LS) (m : Int) (i : Nat) : ∀ n k, (rowF zs m i k n).length ≤ n ∧ totL (rowF zs m i k n) = 2 * (rowF zs m i k n).length := by
  intro n
  induction n with
  | zero => intro k; exact ⟨Nat.le_refl _, rfl⟩
  | succ n ih =>
    intro k
    have := ih (k + 1)
    simp only [rowF]
    split
    · simp only [List.length_append, totL_append, List.length_cons, List.length_nil, totL]
      omega
    · simp only [List.nil_append]
      omega
theorem pairsF_len (zs : LS) (m : Int) : ∀ n i, (pairsF zs m i n).length ≤ n * zs.length ∧ totL (pairsF zs m i n) = 2 * (pairsF zs m i n).length := by
  intro n
  induction n with
  | zero => intro k; exact ⟨Nat.zero_le _, rfl⟩
  | succ n ih =>
    intro i
    have h1 := ih (i + 1)
    have h2 := rowF_len zs m i (zs.length - (i + 1)) (i + 1)
    simp only [pairsF, List.length_append, totL_append, Nat.succ_mul]
    omega
theorem closeF_len (zs : LS) (m : Int) : (closeF zs m).length ≤ 49 ∧ totL (closeF zs m) = 2 * (closeF zs m).length := by
  unfold closeF
  split
  · rename_i h
    have := pairsF_len zs m zs.length 0
    refine ⟨Nat.le_trans this.1 (Nat.le_trans (Nat.mul_le_mul h h) (by decide)), this.2⟩
  · exact ⟨Nat.zero_le _, rfl⟩
theorem lit2 (w : World) (B : Nat) (hB : B ≤ w.heap.size) (x y : Int) :
    OwI ((w.alloc (.cells #[.int .i64 x, .int .i64 y] 3)).alloc (.cells #[.slice (some ⟨w.heap.size, 0, none⟩) 2 2] 32)) B (.slice (some ⟨w.heap.size, 0, none⟩) 2 2) [x, y] ∧
    Rd ((w.alloc (.cells #[.int .i64 x, .int .i64 y] 3)).alloc (.cells #[.slice (some ⟨w.heap.size, 0, none⟩) 2 2] 32)) (.slice (some ⟨w.heap.size + 1, 0, none⟩) 1 1) 1 [.slice (some ⟨w.heap.size, 0, none⟩) 2 2] ∧
    Below w.heap.size w ((w.alloc (.cells #[.int .i64 x, .int .i64 y] 3)).alloc (.cells #[.slice (some ⟨w.heap.size, 0, none⟩) 2 2] 32)) := by
  refine ⟨?_, ?_, below_alloc2 w _ _⟩
  · have h : OwI (w.alloc (.cells #[.int .i64 x, .int .i64 y] 3)) B (.slice (some ⟨w.heap.size, 0, none⟩) 2 2) [x, y] := World.ownsRow_lit w #[.int .i64 x, .int .i64 y] 2 hB (by rw [maxLen_eq]; omega) rfl
    exact h.alloc _
  · have h := rd_alloc (w.alloc (.cells #[.int .i64 x, .int .i64 y] 3)) #[.slice (some ⟨w.heap.size, 0, none⟩) 2 2] 32 1 (by decide)
    rw [show (w.alloc (.cells #[.int .i64 x, .int .i64 y] 3)).heap.size = w.heap.size + 1 by simp] at h
    exact h
set_option maxHeartbeats 3200000 in
theorem specCloseEnough_any (zs : LS) (m : Int) (v : Value) (w : World) (h : RdSpot w v zs) :
    Calls Try.prog 34 #[v, .int .i64 m] w fun e w' => ∃ u, e = .returned u ∧ OwII w' w.heap.size u (closeF zs m) ∧ Below w.heap.size w w' := by
  obtain ⟨ad, cap, bl, off, rfl, hcap, hmax, had, hc⟩ := h.open
  have HC := Lib.hid hc
  clear h hc
  by_cases hl : zs.length ≤ 7
  · have HV : Hid (closeF zs m = pairsF zs m 0 zs.length) := if_pos hl
    have HE := Lib.hid (OwII.empty w w.heap.size (Nat.le_refl _))
    go_enter Try.func34, Try.ntmps34
    go_wp2
    go_loopw [5, 6] (fun u i wr => ∃ (k : Nat) (acc : LL), k ≤ zs.length ∧ i = .int .i64 k ∧ OwII wr w.heap.size u acc ∧ Below w.heap.size w wr ∧ Hid (acc ++ pairsF zs m k (zs.length - k) = closeF zs m)) (fun _ i _ => zs.length - (intOf i).toNat)
    case atStart => exact ⟨0, [], Nat.zero_le _, rfl, HE.out, below_alloc1 _ _, by show _ = _; rw [HV.out]; simp⟩
    case round =>
      obtain ⟨i, acc0, hi, rfl, ho0, hB0, H0⟩ := hrel
      obtain ⟨wo, rfl⟩ : ∃ wo : World, wo = wr := ⟨_, rfl⟩
      by_cases hlt : i < zs.length
      · obtain rfl := had (by omega)
        obtain ⟨⟨x0, x1⟩, hx⟩ : ∃ x, zs[i]? = some x := ⟨_, List.getElem?_eq_getElem hlt⟩
        have hsx := HC.out i hlt
        have hgx : zs.getD i (0, 0) = (x0, x1) := by rw [List.getD_eq_getElem?_getD, hx]; rfl
        rw [hgx] at hsx
        have HX := Lib.hid hgx
        have HSX := Lib.hid hsx
        clear hx hgx hsx
        go_wp2
        go_loopw [5, 7] (fun u j wr => ∃ (k : Nat) (acc : LL), i + 1 ≤ k ∧ k ≤ zs.length ∧ j = .int .i64 k ∧ OwII wr w.heap.size u acc ∧ Below w.heap.size w wr ∧ Hid (acc ++ (rowF zs m i k (zs.length - k) ++ pairsF zs m (i + 1) (zs.length - (i + 1))) = closeF zs m)) (fun _ j _ => zs.length - (intOf j).toNat)
        case atStart => exact ⟨i + 1, acc0, by omega, by omega, by go_num, ho0, hB0, by show _ = _; rw [← H0.out, pairsF_step zs m hlt]⟩
        case round =>
         as_aux_lemma =>
          obtain ⟨k, acc, hik, hk, rfl, ho, hB, H⟩ := hrel
          by_cases hlk : k < zs.length
          · obtain ⟨⟨y0, y1⟩, hy⟩ : ∃ x, zs[k]? = some x := ⟨_, List.getElem?_eq_getElem hlk⟩
            have hsy := HC.out k hlk
            have hgy : zs.getD k (0, 0) = (y0, y1) := by rw [List.getD_eq_getElem?_getD, hy]; rfl
            rw [hgy] at hsy
            have hn : stepsAt zs i k = stepsBetween x0 x1 y0 y1 := by rw [stepsAt, HX.out, hgy]
            have HS := Lib.hid (fun u => specStepsBetween_any x0 x1 y0 y1 u)
            have hge := stepsBetween_ge x0 x1 y0 y1
            have hstep := H.out
            rw [rowF_step zs m i hlk, nearB, hn] at hstep
            generalize stepsBetween x0 x1 y0 y1 = n at hge hstep HS
            have HSTEP := Lib.hid hstep
            have hal : acc.length ≤ 49 := by
              have h1 := congrArg List.length H.out
              have h2 := (closeF_len zs m).1
              simp only [List.length_append] at h1
              omega
            have k0 := cell_on hB HSX.out.1
            have k1 := cell_on hB HSX.out.2
            have m0 := cell_on hB hsy.1
            have m1 := cell_on hB hsy.2
            replace k0 : wr.drew.cell? _ = _ := k0
            replace k1 : wr.drew.cell? _ = _ := k1
            replace m0 : wr.drew.cell? _ = _ := m0
            replace m1 : wr.drew.cell? _ = _ := m1
            dsimp only at k0 k1 m0 m1
            have o2 := ho.drew
            have hB2 := hB.drew
            have q1 : (k : Int) < (zs.length : Int) := by omega
            have q2 : (i : Int) < (zs.length : Int) := by omega
            clear hsy hgy hy hn hstep H ho hB
            go_wp2
            · skip
              refine wp_region_held_drew (S := (fun w' => w'.cell? ⟨bl, off + i * 2, none⟩ = some (.int .i64 x0) ∧ w'.cell? ⟨bl, off + i * 2 + 1, none⟩ = some (.int .i64 x1) ∧ w'.cell? ⟨bl, off + k * 2, none⟩ = some (.int .i64 y0) ∧ w'.cell? ⟨bl, off + k * 2 + 1, none⟩ = some (.int .i64 y1))) (by kernel_rfl) (by first | (dsimp only; done) | ((try dsimp only); exact ⟨k0, k1, m0, m1⟩)) (fun hHeld => ?_)
              refine takeI (i := 0) (oi := _) (v := _) (by simp only [List.getElem?_toArray, List.getElem?_cons_succ, List.getElem?_cons_zero]; exact rfl) ⟨by kernel_rfl, by kernel_rfl, by kernel_rfl, by exact fun _ _ _ h => h, Or.inl ⟨by rfl, by (intro w hSw; (try dsimp only at hSw); go_simp; (try with_reducible rfl))⟩, by assumption, ?_⟩
              try simp only [Act.put, List.setIfInBounds_toArray, List.set_cons_zero, List.set_cons_succ]
              refine takeI (i := 1) (oi := _) (v := _) (by simp only [List.getElem?_toArray, List.getElem?_cons_succ, List.getElem?_cons_zero]; exact rfl) ⟨by kernel_rfl, by kernel_rfl, by kernel_rfl, by exact fun _ _ _ h => h, Or.inl ⟨by rfl, by (intro w hSw; (try dsimp only at hSw); go_simp; (try with_reducible rfl))⟩, by assumption, ?_⟩
              try simp only [Act.put, List.setIfInBounds_toArray, List.set_cons_zero, List.set_cons_succ]
              refine takeI (i := 2) (oi := _) (v := _) (by simp only [List.getElem?_toArray, List.getElem?_cons_succ, List.getElem?_cons_zero]; exact rfl) ⟨by kernel_rfl, by kernel_rfl, by kernel_rfl, by exact fun _ _ _ h => h, Or.inl ⟨by rfl, by (intro w hSw; (try dsimp only at hSw); go_simp; (try with_reducible rfl))⟩, by assumption, ?_⟩
              try simp only [Act.put, List.setIfInBounds_toArray, List.set_cons_zero, List.set_cons_succ]
              refine takeI (i := 3) (oi := _) (v := _) (by simp only [List.getElem?_toArray, List.getElem?_cons_succ, List.getElem?_cons_zero]; exact rfl) ⟨by kernel_rfl, by kernel_rfl, by kernel_rfl, by exact fun _ _ _ h => h, Or.inl ⟨by rfl, by (intro w hSw; (try dsimp only at hSw); go_simp; (try with_reducible rfl))⟩, by assumption, ?_⟩
              try simp only [Act.put, List.setIfInBounds_toArray, List.set_cons_zero, List.set_cons_succ]
              refine takeI (i := 4) (oi := _) (v := _) (by simp only [List.getElem?_toArray, List.getElem?_cons_succ, List.getElem?_cons_zero]; exact rfl) ⟨by kernel_rfl, by kernel_rfl, by kernel_rfl, by exact fun _ _ _ h => h, Or.inl ⟨by rfl, by (intro w hSw; (try dsimp only at hSw); go_simp; (try with_reducible rfl))⟩, by assumption, ?_⟩
              try simp only [Act.put, List.setIfInBounds_toArray, List.set_cons_zero, List.set_cons_succ]
              refine takeI (i := 5) (oi := _) (v := _) (by simp only [List.getElem?_toArray, List.getElem?_cons_succ, List.getElem?_cons_zero]; exact rfl) ⟨by kernel_rfl, by kernel_rfl, by kernel_rfl, by exact fun _ _ _ h => h, Or.inl ⟨by rfl, by (intro w hSw; (try dsimp only at hSw); go_simp; (try with_reducible rfl))⟩, by assumption, ?_⟩
              try simp only [Act.put, List.setIfInBounds_toArray, List.set_cons_zero, List.set_cons_succ]
              refine takeI (i := 6) (oi := _) (v := _) (by simp only [List.getElem?_toArray, List.getElem?_cons_succ, List.getElem?_cons_zero]; exact rfl) ⟨by kernel_rfl, by kernel_rfl, by kernel_rfl, by exact fun _ _ _ h => h, Or.inl ⟨by rfl, by (intro w hSw; (try dsimp only at hSw); go_simp; (try with_reducible rfl))⟩, by assumption, ?_⟩
              try simp only [Act.put, List.setIfInBounds_toArray, List.set_cons_zero, List.set_cons_succ]
              refine takeI (i := 7) (oi := _) (v := _) (by simp only [List.getElem?_toArray, List.getElem?_cons_succ, List.getElem?_cons_zero]; exact rfl) ⟨by kernel_rfl, by kernel_rfl, by kernel_rfl, by exact fun _ _ _ h => h, Or.inl ⟨by rfl, by (intro w hSw; (try dsimp only at hSw); go_simp; (try with_reducible rfl))⟩, by assumption, ?_⟩
              try simp only [Act.put, List.setIfInBounds_toArray, List.set_cons_zero, List.set_cons_succ]
              refine wpAnyH_ready (rs := [8]) (by kernel_rfl) (by simp) ?_
              refine AllReadyH.cons (o := _) (by simp only [List.getElem?_toArray, List.getElem?_cons_succ, List.getElem?_cons_zero]; exact rfl) (fun K hK => ?_) AllReadyH.nil
              go_simp
              go_at_call 52; (refine (HS.out _).mono ?_; rintro e w1 ⟨rfl, hb1⟩; replace hB2 := bvia hB2 hb1; replace o2 := o2.below hb1; replace k0 := cell_on hb1 k0; replace k1 := cell_on hb1 k1; replace m0 := cell_on hb1 m0; replace m1 := cell_on hb1 m1; clear hb1)
              go_wp2_with fail
              refine hK.out _ _ (by first | (dsimp only; done) | ((try dsimp only); exact ⟨k0, k1, m0, m1⟩)) (fun hHeld => ?_)
              clear hK K
              try simp only [Act.put, List.setIfInBounds_toArray, List.set_cons_zero, List.set_cons_succ]
              refine takeI (i := 9) (oi := _) (v := _) (by simp only [List.getElem?_toArray, List.getElem?_cons_succ, List.getElem?_cons_zero]; exact rfl) ⟨by kernel_rfl, by kernel_rfl, by kernel_rfl, by exact fun _ _ _ h => h, Or.inl ⟨by rfl, by (intro w hSw; (try dsimp only at hSw); go_simp; (try with_reducible rfl))⟩, by assumption, ?_⟩
              try simp only [Act.put, List.setIfInBounds_toArray, List.set_cons_zero, List.set_cons_succ]
              refine wpAnyH_done (by kernel_rfl) ?_ _
              by_cases hnn : n = -1
              · subst hnn
                go_wp2
                exact ⟨⟨k + 1, acc, by omega, by omega, by go_num, o2, hB2, by show _ = _; rw [← HSTEP.out]; simp⟩, by simp [intOf]; omega⟩
              · by_cases hnm : n ≤ m
                · obtain ⟨wb, hwb⟩ : ∃ wb : World, wb = w1 := ⟨_, rfl⟩
                  obtain ⟨hl1, hl2, hl3⟩ := lit2 w1 w.heap.size hB2.size (i : Int) (k : Int)
                  go_wp2_with (at_builtin; refine wpList_appII rfl (.tmp 45) (.tmp 49) rfl w1 _ hl3 w.heap.size _ acc rfl o2 _ _ [(i : Int), (k : Int)] rfl hl2 hl1 (by intro q hq; simp [Value.ownBlock] at hq; omega) (by omega) (Nat.le_trans hB2.size hl3.size) ?_; intro v3 w3 o3 hg3)
                  have hB3 : Below w.heap.size w w3 := (hB2.trans (hl3.mono hB2.size)).grown hg3 (Nat.le_trans hB2.size hl3.size) (fun q hq => (o2.lt q hq).1)
                  exact ⟨⟨k + 1, _, by omega, by omega, by go_num, o3, hB3, by show _ = _; rw [← HSTEP.out]; simp [hnm, show 0 ≤ n by omega]⟩, by simp [intOf]; omega⟩
                · go_wp2
                  exact ⟨⟨k + 1, acc, by omega, by omega, by go_num, o2, hB2, by show _ = _; rw [← HSTEP.out]; simp [hnm]⟩, by simp [intOf]; omega⟩
          · go_wp2
            exact ⟨⟨i + 1, acc, by omega, by go_num, ho, hB, by show _ = _; rw [← H.out, rowF_over zs m i (by omega)]; simp⟩, by simp [intOf]; omega⟩
      · go_wp2
        go_ret
        refine ⟨_, rfl, ?_, hB0⟩
        have := H0.out
        rw [pairsF_end zs m (by omega), List.append_nil] at this
        rw [← this]
        exact ho0
  · have HV : Hid (closeF zs m = []) := if_neg hl
    have HE := Lib.hid (OwII.empty w w.heap.size (Nat.le_refl _))
    go_enter Try.func34, Try.ntmps34
    go_wp2
    go_rounds 1
    go_ret
    exact ⟨_, rfl, by rw [HV.out]; exact HE.out, below_alloc1 _ _⟩
set_option maxHeartbeats 3200000 in
theorem implCloseEnough_any (zs : LS) (m : Int) (v : Value) (w : World) (h : RdSpot w v zs) :
    Calls Try.prog 35 #[v, .int .i64 m] w fun e w' => ∃ u, e = .returned u ∧ OwII w' w.heap.size u (closeF zs m) ∧ Below w.heap.size w w' := by
  obtain ⟨ad, cap, bl, off, rfl, hcap, hmax, had, hc⟩ := h.open
  have HC := Lib.hid hc
  clear h hc
  by_cases hl : zs.length ≤ 7
  · have HV : Hid (closeF zs m = pairsF zs m 0 zs.length) := if_pos hl
    have HE := Lib.hid (OwII.empty w w.heap.size (Nat.le_refl _))
    go_enter Try.func35, Try.ntmps35
    go_wp2
    go_loopw [5, 15] (fun u i wr => ∃ (k : Nat) (acc : LL), k ≤ zs.length ∧ i = .int .i64 k ∧ OwII wr w.heap.size u acc ∧ Below w.heap.size w wr ∧ Hid (acc ++ pairsF zs m k (zs.length - k) = closeF zs m)) (fun _ i _ => zs.length - (intOf i).toNat)
    case atStart => exact ⟨0, [], Nat.zero_le _, rfl, HE.out, below_alloc1 _ _, by show _ = _; rw [HV.out]; simp⟩
    case round =>
      obtain ⟨i, acc0, hi, rfl, ho0, hB0, H0⟩ := hrel
      obtain ⟨wo, rfl⟩ : ∃ wo : World, wo = wr := ⟨_, rfl⟩
      by_cases hlt : i < zs.length
      · obtain rfl := had (by omega)
        obtain ⟨⟨x0, x1⟩, hx⟩ : ∃ x, zs[i]? = some x := ⟨_, List.getElem?_eq_getElem hlt⟩
        have hsx := HC.out i hlt
        have hgx : zs.getD i (0, 0) = (x0, x1) := by rw [List.getD_eq_getElem?_getD, hx]; rfl
        rw [hgx] at hsx
        have HX := Lib.hid hgx
        have HSX := Lib.hid hsx
        clear hx hgx hsx
        go_wp2
        go_loopw [5, 7] (fun u j wr => ∃ (k : Nat) (acc : LL), i + 1 ≤ k ∧ k ≤ zs.length ∧ j = .int .i64 k ∧ OwII wr w.heap.size u acc ∧ Below w.heap.size w wr ∧ Hid (acc ++ (rowF zs m i k (zs.length - k) ++ pairsF zs m (i + 1) (zs.length - (i + 1))) = closeF zs m)) (fun _ j _ => zs.length - (intOf j).toNat)
        case atStart => exact ⟨i + 1, acc0, by omega, by omega, by go_num, ho0, hB0, by show _ = _; rw [← H0.out, pairsF_step zs m hlt]⟩
        case round =>
         as_aux_lemma =>
          obtain ⟨k, acc, hik, hk, rfl, ho, hB, H⟩ := hrel
          by_cases hlk : k < zs.length
          · obtain ⟨⟨y0, y1⟩, hy⟩ : ∃ x, zs[k]? = some x := ⟨_, List.getElem?_eq_getElem hlk⟩
            have hsy := HC.out k hlk
            have hgy : zs.getD k (0, 0) = (y0, y1) := by rw [List.getD_eq_getElem?_getD, hy]; rfl
            rw [hgy] at hsy
            have hn : stepsAt zs i k = stepsBetween x0 x1 y0 y1 := by rw [stepsAt, HX.out, hgy]
            have HS := Lib.hid (fun u => implStepsBetween_any x0 x1 y0 y1 u)
            have hge := stepsBetween_ge x0 x1 y0 y1
            have hstep := H.out
            rw [rowF_step zs m i hlk, nearB, hn] at hstep
            generalize stepsBetween x0 x1 y0 y1 = n at hge hstep HS
            have HSTEP := Lib.hid hstep
            have hal : acc.length ≤ 49 := by
              have h1 := congrArg List.length H.out
              have h2 := (closeF_len zs m).1
              simp only [List.length_append] at h1
              omega
            have k0 := cell_on hB HSX.out.1
            have k1 := cell_on hB HSX.out.2
            have m0 := cell_on hB hsy.1
            have m1 := cell_on hB hsy.2
            replace k0 : wr.drew.cell? _ = _ := k0
            replace k1 : wr.drew.cell? _ = _ := k1
            replace m0 : wr.drew.cell? _ = _ := m0
            replace m1 : wr.drew.cell? _ = _ := m1
            dsimp only at k0 k1 m0 m1
            have o2 := ho.drew
            have hB2 := hB.drew
            have q1 : (k : Int) < (zs.length : Int) := by omega
            have q2 : (i : Int) < (zs.length : Int) := by omega
            clear hsy hgy hy hn hstep H ho hB
            go_wp2
            · skip
              refine wp_region_held_drew (S := (fun w' => w'.cell? ⟨bl, off + i * 2, none⟩ = some (.int .i64 x0) ∧ w'.cell? ⟨bl, off + i * 2 + 1, none⟩ = some (.int .i64 x1) ∧ w'.cell? ⟨bl, off + k * 2, none⟩ = some (.int .i64 y0) ∧ w'.cell? ⟨bl, off + k * 2 + 1, none⟩ = some (.int .i64 y1))) (by kernel_rfl) (by first | (dsimp only; done) | ((try dsimp only); exact ⟨k0, k1, m0, m1⟩)) (fun hHeld => ?_)
              refine takeI (i := 0) (oi := _) (v := _) (by simp only [List.getElem?_toArray, List.getElem?_cons_succ, List.getElem?_cons_zero]; exact rfl) ⟨by kernel_rfl, by kernel_rfl, by kernel_rfl, by exact fun _ _ _ h => h, Or.inl ⟨by rfl, by (intro w hSw; (try dsimp only at hSw); go_simp; (try with_reducible rfl))⟩, by assumption, ?_⟩
              try simp only [Act.put, List.setIfInBounds_toArray, List.set_cons_zero, List.set_cons_succ]
              refine takeI (i := 1) (oi := _) (v := _) (by simp only [List.getElem?_toArray, List.getElem?_cons_succ, List.getElem?_cons_zero]; exact rfl) ⟨by kernel_rfl, by kernel_rfl, by kernel_rfl, by exact fun _ _ _ h => h, Or.inl ⟨by rfl, by (intro w hSw; (try dsimp only at hSw); go_simp; (try with_reducible rfl))⟩, by assumption, ?_⟩
              try simp only [Act.put, List.setIfInBounds_toArray, List.set_cons_zero, List.set_cons_succ]
              refine takeI (i := 2) (oi := _) (v := _) (by simp only [List.getElem?_toArray, List.getElem?_cons_succ, List.getElem?_cons_zero]; exact rfl) ⟨by kernel_rfl, by kernel_rfl, by kernel_rfl, by exact fun _ _ _ h => h, Or.inl ⟨by rfl, by (intro w hSw; (try dsimp only at hSw); go_simp; (try with_reducible rfl))⟩, by assumption, ?_⟩
              try simp only [Act.put, List.setIfInBounds_toArray, List.set_cons_zero, List.set_cons_succ]
              refine takeI (i := 3) (oi := _) (v := _) (by simp only [List.getElem?_toArray, List.getElem?_cons_succ, List.getElem?_cons_zero]; exact rfl) ⟨by kernel_rfl, by kernel_rfl, by kernel_rfl, by exact fun _ _ _ h => h, Or.inl ⟨by rfl, by (intro w hSw; (try dsimp only at hSw); go_simp; (try with_reducible rfl))⟩, by assumption, ?_⟩
              try simp only [Act.put, List.setIfInBounds_toArray, List.set_cons_zero, List.set_cons_succ]
              refine takeI (i := 4) (oi := _) (v := _) (by simp only [List.getElem?_toArray, List.getElem?_cons_succ, List.getElem?_cons_zero]; exact rfl) ⟨by kernel_rfl, by kernel_rfl, by kernel_rfl, by exact fun _ _ _ h => h, Or.inl ⟨by rfl, by (intro w hSw; (try dsimp only at hSw); go_simp; (try with_reducible rfl))⟩, by assumption, ?_⟩
              try simp only [Act.put, List.setIfInBounds_toArray, List.set_cons_zero, List.set_cons_succ]
              refine takeI (i := 5) (oi := _) (v := _) (by simp only [List.getElem?_toArray, List.getElem?_cons_succ, List.getElem?_cons_zero]; exact rfl) ⟨by kernel_rfl, by kernel_rfl, by kernel_rfl, by exact fun _ _ _ h => h, Or.inl ⟨by rfl, by (intro w hSw; (try dsimp only at hSw); go_simp; (try with_reducible rfl))⟩, by assumption, ?_⟩
              try simp only [Act.put, List.setIfInBounds_toArray, List.set_cons_zero, List.set_cons_succ]
              refine takeI (i := 6) (oi := _) (v := _) (by simp only [List.getElem?_toArray, List.getElem?_cons_succ, List.getElem?_cons_zero]; exact rfl) ⟨by kernel_rfl, by kernel_rfl, by kernel_rfl, by exact fun _ _ _ h => h, Or.inl ⟨by rfl, by (intro w hSw; (try dsimp only at hSw); go_simp; (try with_reducible rfl))⟩, by assumption, ?_⟩
              try simp only [Act.put, List.setIfInBounds_toArray, List.set_cons_zero, List.set_cons_succ]
              refine takeI (i := 7) (oi := _) (v := _) (by simp only [List.getElem?_toArray, List.getElem?_cons_succ, List.getElem?_cons_zero]; exact rfl) ⟨by kernel_rfl, by kernel_rfl, by kernel_rfl, by exact fun _ _ _ h => h, Or.inl ⟨by rfl, by (intro w hSw; (try dsimp only at hSw); go_simp; (try with_reducible rfl))⟩, by assumption, ?_⟩
              try simp only [Act.put, List.setIfInBounds_toArray, List.set_cons_zero, List.set_cons_succ]
              refine wpAnyH_ready (rs := [8]) (by kernel_rfl) (by simp) ?_
              refine AllReadyH.cons (o := _) (by simp only [List.getElem?_toArray, List.getElem?_cons_succ, List.getElem?_cons_zero]; exact rfl) (fun K hK => ?_) AllReadyH.nil
              go_simp
              go_at_call 39; (refine (HS.out _).mono ?_; rintro e w1 ⟨rfl, hb1⟩; replace hB2 := bvia hB2 hb1; replace o2 := o2.below hb1; replace k0 := cell_on hb1 k0; replace k1 := cell_on hb1 k1; replace m0 := cell_on hb1 m0; replace m1 := cell_on hb1 m1; clear hb1)
              go_wp2_with fail
              refine hK.out _ _ (by first | (dsimp only; done) | ((try dsimp only); exact ⟨k0, k1, m0, m1⟩)) (fun hHeld => ?_)
              clear hK K
              try simp only [Act.put, List.setIfInBounds_toArray, List.set_cons_zero, List.set_cons_succ]
              refine takeI (i := 9) (oi := _) (v := _) (by simp only [List.getElem?_toArray, List.getElem?_cons_succ, List.getElem?_cons_zero]; exact rfl) ⟨by kernel_rfl, by kernel_rfl, by kernel_rfl, by exact fun _ _ _ h => h, Or.inl ⟨by rfl, by (intro w hSw; (try dsimp only at hSw); go_simp; (try with_reducible rfl))⟩, by assumption, ?_⟩
              try simp only [Act.put, List.setIfInBounds_toArray, List.set_cons_zero, List.set_cons_succ]
              refine wpAnyH_done (by kernel_rfl) ?_ _
              by_cases hnn : n = -1
              · subst hnn
                go_wp2
                exact ⟨⟨k + 1, acc, by omega, by omega, by go_num, o2, hB2, by show _ = _; rw [← HSTEP.out]; simp⟩, by simp [intOf]; omega⟩
              · by_cases hnm : n ≤ m
                · obtain ⟨wb, hwb⟩ : ∃ wb : World, wb = w1 := ⟨_, rfl⟩
                  obtain ⟨hl1, hl2, hl3⟩ := lit2 w1 w.heap.size hB2.size (i : Int) (k : Int)
                  go_wp2_with (at_builtin; refine wpList_appII rfl (.tmp 42) (.tmp 46) rfl w1 _ hl3 w.heap.size _ acc rfl o2 _ _ [(i : Int), (k : Int)] rfl hl2 hl1 (by intro q hq; simp [Value.ownBlock] at hq; omega) (by omega) (Nat.le_trans hB2.size hl3.size) ?_; intro v3 w3 o3 hg3)
                  have hB3 : Below w.heap.size w w3 := (hB2.trans (hl3.mono hB2.size)).grown hg3 (Nat.le_trans hB2.size hl3.size) (fun q hq => (o2.lt q hq).1)
                  exact ⟨⟨k + 1, _, by omega, by omega, by go_num, o3, hB3, by show _ = _; rw [← HSTEP.out]; simp [hnm, show 0 ≤ n by omega]⟩, by simp [intOf]; omega⟩
                · go_wp2
                  exact ⟨⟨k + 1, acc, by omega, by omega, by go_num, o2, hB2, by show _ = _; rw [← HSTEP.out]; simp [hnm]⟩, by simp [intOf]; omega⟩
          · go_wp2
            exact ⟨⟨i + 1, acc, by omega, by go_num, ho, hB, by show _ = _; rw [← H.out, rowF_over zs m i (by omega)]; simp⟩, by simp [intOf]; omega⟩
      · go_wp2
        go_ret
        refine ⟨_, rfl, ?_, hB0⟩
        have := H0.out
        rw [pairsF_end zs m (by omega), List.append_nil] at this
        rw [← this]
        exact ho0
  · have HV : Hid (closeF zs m = []) := if_neg hl
    go_enter Try.func35, Try.ntmps35
    go_wp2
    go_ret
    exact ⟨_, rfl, by rw [HV.out]; exact OwII.nil _ _, Below.refl _ _⟩
end Go.Proofs.Ytcpkbohopicabaa
