/- The walks of PriceOf, GroupPrice, split, ChangeFor, FewestPieces. -/
import Derived.Test.YtcpkbohopicabaaAll
import Derived.Test.YtcpkbohopicabaaBl
import Derived.Test.YtcpkbohopicabaaDraw
namespace Go.Proofs.Ytcpkbohopicabaa
open Go.ChangeShapes Go.WideShapes Go.ChangeAt Go.RowKit Go.Joins
set_option linter.unusedSimpArgs false
set_option linter.unusedVariables false

theorem inB_of {a b c : Int} (h1 : b ≤ a) (h2 : a ≤ c) : inB a b c = true := inB_true.2 ⟨h1, h2⟩
/-- The price of a grown one. -/
def full (row : Int) : Int := if row ≤ 2 then 12 else if row ≤ 5 then 9 else 6
def price (age row : Int) : Int := if age < 14 then (full row + 1) / 2 else full row
theorem full_bd (row : Int) : full row = 12 ∨ full row = 9 ∨ full row = 6 := by
  unfold full
  split
  · exact .inl rfl
  · split
    · exact .inr (.inl rfl)
    · exact .inr (.inr rfl)
theorem price_bd (age row : Int) : 3 ≤ price age row ∧ price age row ≤ 12 ∧ (price age row = full row ∨ price age row = (full row + 1) / 2) := by
  unfold price
  rcases full_bd row with h | h | h <;> rw [h] <;> split <;> omega
theorem implPriceOf_any (age row : Int) (ha : 0 ≤ age ∧ age ≤ 120) (hr : 0 ≤ row ∧ row ≤ 20) (w : World) : Calls Try.prog 18 #[.int .i64 age, .int .i64 row] w fun e w' => e = .returned (.int .i64 (price age row)) ∧ w = w' := by
  have cw : ∀ (x lo hi : Int) (b : Bool), inB x lo hi = b → ∀ u, Calls Try.prog 42 #[.int .i64 x, .int .i64 lo, .int .i64 hi] u fun e w' => e = .returned (.bool b) ∧ u = w' := fun x lo hi b hb u => by have := within_any x lo hi u; rwa [hb] at this
  have h0 := inB_of ha.1 ha.2
  have h1 := inB_of hr.1 hr.2
  by_cases hc : age < 14 <;> by_cases h2 : row ≤ 2 <;> by_cases h5 : row ≤ 5
  all_goals first
    | (exfalso; omega; done)
    | (go_enter Try.func18, Try.ntmps18
       go_wp2_with (fail)
       refine (cw age _ _ _ h0 _).mono ?_
       rintro e w9 ⟨rfl, rfl⟩
       go_wp2_with (fail)
       refine (cw row _ _ _ h1 _).mono ?_
       rintro e w9 ⟨rfl, rfl⟩
       go_wp2_with (fail)
       go_ret
       exact ⟨ret_int (by unfold price full; (repeat' split) <;> omega), rfl⟩)
def sumP (row : Int) (zs : List Int) : Int := (zs.map fun a => price a row).foldl (· + ·) 0
def stepG (row : Int) (s : Int × Int) (a : Int) : Int × Int := (s.1 + price a row, min s.2 (price a row))
theorem implGroupPrice_any (zs : List Int) (row : Int) (hl : 5 ≤ zs.length ∧ zs.length ≤ 30) (hm : ∀ z ∈ zs, 0 ≤ z ∧ z ≤ 120) (hr : 0 ≤ row ∧ row ≤ 20) (v : Value) (w : World) (h : RdI w v zs) :
    Calls Try.prog 19 #[v, .int .i64 row] w fun e w' => e = .returned (.int .i64 ((zs.foldl (stepG row) (0, 100)).1 - (zs.foldl (stepG row) (0, 100)).2)) ∧ w = w' := by
  obtain ⟨ad, cap, bl, off, rfl, hcap, hmax, had, hc⟩ := h.open
  have HC := Lib.hid hc
  clear h hc
  obtain rfl := had (by omega)
  have HM := Lib.hid hm
  clear hm had
  have hin : inB (zs.length : Int) 1 30 = true := inB_of (by omega) (by omega)
  have cw : ∀ u, Calls Try.prog 42 #[.int .i64 (zs.length : Int), .int .i64 1, .int .i64 30] u fun e w' => e = .returned (.bool true) ∧ u = w' := fun u => by have := within_any (zs.length : Int) 1 30 u; rwa [hin] at this
  have HW := Lib.hid cw
  clear cw hin
  go_enter Try.func19, Try.ntmps19
  go_wp2_with (fail)
  refine (HW.out _).mono ?_
  rintro e w9 ⟨rfl, rfl⟩
  go_wp2_with (fail)
  go_loop [5, 6, 16] (fun s l i => ∃ (k : Nat) (q r : Int), k ≤ zs.length ∧ i = .int .i64 k ∧ s = .int .i64 q ∧ l = .int .i64 r ∧ 0 ≤ q ∧ q ≤ 12 * k ∧ 0 ≤ r ∧ r ≤ 100 ∧ Hid ((zs.drop k).foldl (stepG row) (q, r) = zs.foldl (stepG row) (0, 100))) (fun _ _ i => zs.length - (intOf i).toNat)
  case atStart => exact ⟨0, 0, 100, Nat.zero_le _, rfl, rfl, rfl, by omega, by omega, by omega, by omega, rfl⟩
  case round =>
    obtain ⟨k, q, r, hk, rfl, rfl, rfl, q0, q1, r0, r1, H⟩ := hrel
    by_cases hlt : k < zs.length
    · obtain ⟨x, hck, hx, HX⟩ : ∃ x, w.cell? ⟨bl, off + k, none⟩ = some (.int .i64 x) ∧ (0 ≤ x ∧ x ≤ 120) ∧ Hid (zs.drop k = x :: zs.drop (k + 1)) := ⟨_, HC.out k hlt, HM.out _ (by rw [getD_lt hlt]; exact List.getElem_mem hlt), by rw [getD_lt hlt]; exact drop_get zs k hlt⟩
      have hp := price_bd x row
      have HP := Lib.hid (implPriceOf_any x row hx hr w)
      have hfin : (zs.drop (k + 1)).foldl (stepG row) (q + price x row, min r (price x row)) = zs.foldl (stepG row) (0, 100) := by rw [← H.out, HX.out]; rfl
      have HF := Lib.hid hfin
      clear hfin H HX
      generalize price x row = p at hp HP HF
      obtain ⟨p0, p1, _⟩ := hp
      have hpn : ¬ p < 0 := by omega
      go_wp2_with (fail)
      refine HP.out.mono ?_
      rintro e w9 ⟨rfl, rfl⟩
      go_wp2
      all_goals exact ⟨⟨k + 1, _, _, by omega, by go_num, rfl, rfl, by omega, by omega, by omega, by omega, by have := HF.out; show _ = _; simpa only [ite_min, ite_min'] using this⟩, by simp [intOf]; omega⟩
    · obtain rfl : k = zs.length := by omega
      have he : (q, r) = zs.foldl (stepG row) (0, 100) := by
        have := H.out
        rw [List.drop_length] at this
        exact this
      have HH := Lib.hid he
      clear he H
      have hl5 : (5 : Int) ≤ (zs.length : Int) := by omega
      go_wp2
      go_ret
      exact ⟨ret_int (by rw [← HH.out]), rfl⟩
/-- The pieces of a sum, the greatest first. -/
def splitL : Int → List Int → List Int
  | _, [] => []
  | n, v :: r => n / v :: splitL (n % v) r
def coins : List Int := [50, 20, 10, 5, 2, 1]
def splitF (n : Int) : List Int := splitL n coins
theorem splitF_length (n : Int) : (splitF n).length = 6 := rfl
theorem pieces_any (w : World) : Calls Try.prog 48 #[] w fun e w' => ∃ u, e = .returned u ∧ OwI w' w.heap.size u coins ∧ Below w.heap.size w w' := by
  have h : OwI (w.alloc (.cells #[.int .i64 50, .int .i64 20, .int .i64 10, .int .i64 5, .int .i64 2, .int .i64 1] 3)) w.heap.size (.slice (some ⟨w.heap.size, 0, none⟩) 6 6) coins :=
    World.ownsRow_lit w #[.int .i64 50, .int .i64 20, .int .i64 10, .int .i64 5, .int .i64 2, .int .i64 1] 6 (Nat.le_refl _) (by rw [maxLen_eq]; omega) rfl
  have hb := below_alloc1 w (.cells #[.int .i64 50, .int .i64 20, .int .i64 10, .int .i64 5, .int .i64 2, .int .i64 1] 3)
  go_enter Try.func48, Try.ntmps48
  go_wp2
  go_ret
  exact ⟨_, rfl, h, hb⟩
theorem coins_get {k : Nat} (h : k < 6) : 1 ≤ coins.getD k 0 ∧ coins.getD k 0 ≤ 50 ∧ coins.drop k = coins.getD k 0 :: coins.drop (k + 1) := by
  match k, h with
  | 0, _ => exact ⟨by decide, by decide, rfl⟩
  | 1, _ => exact ⟨by decide, by decide, rfl⟩
  | 2, _ => exact ⟨by decide, by decide, rfl⟩
  | 3, _ => exact ⟨by decide, by decide, rfl⟩
  | 4, _ => exact ⟨by decide, by decide, rfl⟩
  | 5, _ => exact ⟨by decide, by decide, rfl⟩
theorem split_any (n : Int) (hn : 0 ≤ n ∧ n ≤ 10000) (w : World) : Calls Try.prog 46 #[.int .i64 n] w fun e w' => ∃ u, e = .returned u ∧ OwI w' w.heap.size u (splitF n) ∧ Below w.heap.size w w' := by
  have hB0 := below_alloc1 w (.cells #[] 3)
  have HE := Lib.hid (OwI.empty w w.heap.size (Nat.le_refl _))
  go_enter Try.func46, Try.ntmps46
  go_wp2_with (fail)
  refine (pieces_any _).mono ?_
  rintro e w1 ⟨up, rfl, op, hb⟩
  have ho := HE.out.below hb
  have hB := bvia hB0 hb
  have hls : w.heap.size < w1.heap.size := by have := hb.size; simp at this; omega
  obtain ⟨gp, capp, rfl, _, hgp, _, _⟩ : ∃ g cap, up = .slice (some ⟨g, 0, none⟩) 6 cap ∧ w.heap.size + 1 ≤ g ∧ g < w1.heap.size ∧ 6 ≤ cap ∧ cap ≤ 9223372036854775807 := by
    rcases op.slice with ⟨rfl, h⟩ | ⟨g, cap, rfl, h1, h2, h3, h4⟩
    · simp [coins] at h
    · exact ⟨g, cap, rfl, by simpa using h1, h2, h3, h4⟩
  clear hb hB0 HE
  have HP := Lib.hid op
  have HO := Lib.hid (And.intro ho hB)
  clear op ho hB
  go_wp2_with (fail)
  go_loopw [0, 3, 9] (fun n' u i wr => ∃ (k : Nat) (m : Int) (A : List Int), k ≤ 6 ∧ i = .int .i64 k ∧ n' = .int .i64 m ∧ 0 ≤ m ∧ m ≤ 10000 ∧ A.length = k ∧ OwI wr w.heap.size u A ∧ Below w.heap.size w wr ∧ Hid (OwI wr (w.heap.size + 1) (.slice (some ⟨gp, 0, none⟩) 6 capp) coins) ∧ Dis (.slice (some ⟨gp, 0, none⟩) 6 capp) u ∧ Hid (A ++ splitL m (coins.drop k) = splitF n)) (fun _ _ i _ => 6 - (intOf i).toNat)
  case atStart => exact ⟨0, n, [], by omega, rfl, rfl, by omega, by omega, rfl, HO.out.1, HO.out.2, by show OwI _ _ _ _; have := HP.out; simpa using this, dis_addr (by omega), rfl⟩
  case round =>
    clear HP HO
    obtain ⟨k, m, A, hk, rfl, rfl, m0, m1, hA, ho, hB, HP, hdis, H⟩ := hrel
    by_cases hlt : k < 6
    · obtain ⟨c0, c1, c2⟩ := coins_get hlt
      have hck := (HP.out.cell (show k < coins.length from hlt)).1
      have HS : Hid (A ++ [m / coins.getD k 0] ++ splitL (m % coins.getD k 0) (coins.drop (k + 1)) = splitF n) := by
        show _ = _
        rw [← H.out, c2, splitL]
        simp
      clear c2 H
      generalize coins.getD k 0 = x at c0 c1 hck HS
      have hx0 : ¬ x = 0 := by omega
      have hxb : (x == 0) = false := beq_eq_false_iff_ne.2 hx0
      have hd0 : 0 ≤ m / x := Int.ediv_nonneg m0 (by omega)
      have hd1 : m / x ≤ m := Int.ediv_le_self _ m0
      have hr0 : 0 ≤ m % x := Int.emod_nonneg _ hx0
      have hr1 : m % x < x := Int.emod_lt_of_pos _ (by omega)
      have hq1 : m.tdiv x = m / x := Int.tdiv_eq_ediv_of_nonneg m0
      have hq2 : m.tmod x = m % x := Int.tmod_eq_emod_of_nonneg m0
      generalize m / x = d at hd0 hd1 hq1 HS
      generalize m % x = r at hr0 hr1 hq2 HS
      have hk6 : (k : Int) < 6 := by omega
      go_wp2_with (at_builtin; refine wpList_pushI rfl (.tmp 13) (.tmp 17) rfl _ _ w.heap.size _ _ rfl ho rfl (by omega) hB.size ?_; intro v1 w2 o1 hgr hfr; have hB2 := ho.grown_below hB (Nat.le_refl _) hgr; have HP2 := Lib.hid (HP.out.kept hgr hdis); have hgl := (HP.out.lt gp rfl).2; clear hgr HP)
      have hdis2 : Dis (.slice (some ⟨gp, 0, none⟩) 6 capp) v1 := by
        rcases hfr with h | ⟨q, h, hq⟩
        · rcases hdis with h' | h'
          · exact .inl h'
          · exact .inr (by rw [h]; exact h')
        · exact .inr (by rw [h]; simp [Value.ownBlock]; omega)
      exact ⟨⟨k + 1, r, A ++ [d], by omega, by go_num, rfl, by omega, by omega, by simp [hA], o1, hB2, HP2, hdis2, HS⟩, by simp [intOf]; omega⟩
    · go_wp2
      go_ret
      obtain rfl : k = 6 := by omega
      have := H.out
      rw [show splitL m (coins.drop 6) = [] from rfl, List.append_nil] at this
      rw [← this]
      exact ⟨_, rfl, ho, hB⟩
theorem implChangeFor_any (s p : Int) (hs : 0 ≤ s ∧ s ≤ p) (hp : p ≤ 10000) (w : World) : Calls Try.prog 17 #[.int .i64 s, .int .i64 p] w fun e w' => ∃ u, e = .returned u ∧ OwI w' w.heap.size u (splitF (p - s)) ∧ Below w.heap.size w w' := by
  have cw : ∀ (x lo hi : Int) (b : Bool), inB x lo hi = b → ∀ u, Calls Try.prog 42 #[.int .i64 x, .int .i64 lo, .int .i64 hi] u fun e w' => e = .returned (.bool b) ∧ u = w' := fun x lo hi b hb u => by have := within_any x lo hi u; rwa [hb] at this
  have h0 : inB p 0 10000 = true := inB_of (by omega) hp
  have h1 : inB s 0 p = true := inB_of hs.1 hs.2
  have HS := Lib.hid (split_any (p - s) (by omega) w)
  go_enter Try.func17, Try.ntmps17
  go_wp2_with (fail)
  refine (cw p _ _ _ h0 _).mono ?_
  rintro e w9 ⟨rfl, rfl⟩
  go_wp2_with (fail)
  refine (cw s _ _ _ h1 _).mono ?_
  rintro e w9 ⟨rfl, rfl⟩
  go_wp2_with (fail)
  refine HS.out.mono ?_
  rintro e w1 ⟨u, rfl, o1, hb⟩
  go_wp2_with (fail)
  go_ret
  exact ⟨_, rfl, o1, hb⟩
theorem splitL_nn (cs : List Int) (hc : ∀ c ∈ cs, 0 < c) : ∀ n : Int, 0 ≤ n → ∀ x ∈ splitL n cs, 0 ≤ x ∧ x ≤ n := by
  induction cs with
  | nil => intro n _ x hx; simp [splitL] at hx
  | cons v r ih =>
    intro n hn x hx
    have hv := hc v (by simp)
    rcases List.mem_cons.1 hx with rfl | hx
    · exact ⟨Int.ediv_nonneg hn (by omega), Int.ediv_le_self _ hn⟩
    · have h1 := ih (fun c h => hc c (by simp [h])) (n % v) (Int.emod_nonneg _ (by omega)) x hx
      have h2 := Int.emod_lt_of_pos n hv
      have h3 : n % v ≤ n := by
        have := Int.emod_add_mul_ediv n v
        have h4 : 0 ≤ v * (n / v) := Int.mul_nonneg (by omega) (Int.ediv_nonneg hn (by omega))
        omega
      omega
theorem coins_pos : ∀ c ∈ coins, 0 < c := by decide
def sumL (zs : List Int) : Int := zs.foldl (· + ·) 0
theorem implFewestPieces_any (n : Int) (hn : 0 ≤ n ∧ n ≤ 2000) (w : World) : Calls Try.prog 20 #[.int .i64 n] w fun e w' => e = .returned (.int .i64 (sumL (splitF n))) ∧ Below w.heap.size w w' := by
  have h0 : inB n 0 2000 = true := inB_of hn.1 hn.2
  have cw : ∀ u, Calls Try.prog 42 #[.int .i64 n, .int .i64 0, .int .i64 2000] u fun e w' => e = .returned (.bool true) ∧ u = w' := fun u => by have := within_any n 0 2000 u; rwa [h0] at this
  have hm := splitL_nn coins coins_pos n hn.1
  have HM : Hid (∀ x ∈ splitF n, 0 ≤ x ∧ x ≤ n) := hm
  clear hm
  go_enter Try.func20, Try.ntmps20
  go_wp2_with (fail)
  refine (cw _).mono ?_
  rintro e w9 ⟨rfl, rfl⟩
  go_wp2_with (fail)
  refine (split_any n (by omega) _).mono ?_
  rintro e w1 ⟨u, rfl, o1, hb⟩
  obtain ⟨gp, capp, rfl, h1, h2⟩ : ∃ g cap, u = .slice (some ⟨g, 0, none⟩) 6 cap ∧ 6 ≤ cap ∧ cap ≤ 9223372036854775807 := by
    rcases o1.slice with ⟨rfl, h⟩ | ⟨g, cap, rfl, h1, h2, h3, h4⟩
    · have := congrArg List.length h; simp [splitF_length] at this
    · exact ⟨g, cap, rfl, h3, h4⟩
  have HO := Lib.hid o1
  clear o1
  have hlen := splitF_length n
  obtain ⟨zs, hzs⟩ : ∃ zs, splitF n = zs := ⟨_, rfl⟩
  rw [hzs] at HM HO hlen
  have HZ := Lib.hid hzs
  clear hzs
  go_wp2_with (fail)
  go_loop [3, 12] (fun s i => ∃ (k : Nat) (q : Int), k ≤ 6 ∧ i = .int .i64 k ∧ s = .int .i64 q ∧ 0 ≤ q ∧ q ≤ 2000 * k ∧ Hid ((zs.drop k).foldl (· + ·) q = sumL zs)) (fun _ i => 6 - (intOf i).toNat)
  case atStart => exact ⟨0, 0, by omega, rfl, rfl, by omega, by omega, rfl⟩
  case round =>
    obtain ⟨k, q, hk, rfl, rfl, q0, q1, H⟩ := hrel
    by_cases hlt : k < 6
    · obtain ⟨x, hck, hx, HX⟩ : ∃ x, w1.cell? ⟨gp, k, none⟩ = some (.int .i64 x) ∧ (0 ≤ x ∧ x ≤ n) ∧ Hid (zs.drop k = x :: zs.drop (k + 1)) := ⟨_, (HO.out.cell (by omega)).1, HM.out _ (by rw [getD_lt (by omega)]; exact List.getElem_mem (by omega)), by rw [getD_lt (by omega)]; exact drop_get zs k (by omega)⟩
      have hk6 : (k : Int) < 6 := by omega
      obtain ⟨x0, x1⟩ := hx
      go_wp2
      exact ⟨⟨k + 1, q + x, by omega, by go_num, rfl, by omega, by omega, by show _ = _; rw [← H.out, HX.out]; rfl⟩, by simp [intOf]; omega⟩
    · go_wp2
      go_ret
      have := H.out
      rw [List.drop_eq_nil_of_le (by omega)] at this
      exact ⟨ret_int (by rw [HZ.out]; exact this), hb⟩
end Go.Proofs.Ytcpkbohopicabaa
