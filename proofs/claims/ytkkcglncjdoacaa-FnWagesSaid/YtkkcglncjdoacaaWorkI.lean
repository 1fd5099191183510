/- The walks of ShareByWork: shares in proportion to work; plain laws first. -/
import Derived.Test.YtkkcglncjdoacaaApp
import Derived.Test.YtkkcglncjdoacaaInts
import Derived.Test.YtkkcglncjdoacaaStrict
namespace Go.Proofs.Ytkkcglncjdoacaa
open Go.ChangeShapes Go.WideShapes Go.ChangeAt Go.RowKit Go.Joins
set_option linter.unusedSimpArgs false
set_option linter.unusedVariables false

/-- Two values lie in different blocks. -/
def Dj (v u : Value) : Prop := ∀ k, v.ownBlock = some k → u.ownBlock ≠ some k
theorem Dj.symm {v u : Value} (h : Dj v u) : Dj u v := fun k h1 h2 => h k h2 h1
theorem Dj.dis {v u : Value} (h : Dj v u) : Dis v u := by
  rcases hv : v.ownBlock with _ | k
  · exact .inl hv
  · exact .inr (fun e => h k hv (by rw [← e, hv]))
theorem Dj.next {w : World} {B : Nat} {v v' u : Value} {R : List Int} (h : Dj v u) (hu : OwI w B u R) (hat : v'.ownBlock = v.ownBlock ∨ ∃ k, v'.ownBlock = some k ∧ w.heap.size ≤ k) : Dj v' u := by
  intro k hk e
  rcases hat with hat | ⟨j, hj, hle⟩
  · exact h k (by rw [← hat]; exact hk) e
  · rw [hk] at hj
    injection hj with hj
    have := (hu.lt k e).2
    omega

/-! ### The plain law: which index has the greatest rest, and how what is left is given away. -/
def bestFrom (R : List Int) : Nat → Nat → Nat → Nat
  | _, b, 0 => b
  | k, b, m + 1 => bestFrom R (k + 1) (if R.getD b 0 < R.getD k 0 then k else b) m
def bestF (R : List Int) : Nat := bestFrom R 0 0 R.length
theorem bestFrom_step (R : List Int) (k b m : Nat) : bestFrom R k b (m + 1) = bestFrom R (k + 1) (if R.getD b 0 < R.getD k 0 then k else b) m := rfl
theorem bestFrom_lt (R : List Int) (n : Nat) : ∀ (m k b : Nat), b < n → k + m ≤ n → bestFrom R k b m < n := by
  intro m
  induction m with
  | zero => intro k b hb _; exact hb
  | succ m ih =>
    intro k b hb hk
    rw [bestFrom_step]
    refine ih _ _ ?_ (by omega)
    split <;> omega
theorem bestF_lt {R : List Int} (h : 0 < R.length) : bestF R < R.length := bestFrom_lt R R.length R.length 0 0 h (by omega)
def giveF : Nat → List Int → List Int → List Int
  | 0, A, _ => A
  | n + 1, A, R => giveF n (A.set (bestF R) (A.getD (bestF R) 0 + 1)) (R.set (bestF R) (-1))
theorem giveF_length (n : Nat) : ∀ A R : List Int, (giveF n A R).length = A.length := by
  induction n with
  | zero => intro A R; rfl
  | succ n ih => intro A R; rw [giveF, ih]; simp
def sumI (zs : List Int) : Int := zs.foldr (· + ·) 0
theorem sumI_cons (x : Int) (r : List Int) : sumI (x :: r) = x + sumI r := rfl
theorem sumI_nil : sumI [] = 0 := rfl
theorem sumI_bd {zs : List Int} {m : Int} (h : ∀ z ∈ zs, 0 ≤ z ∧ z ≤ m) : 0 ≤ sumI zs ∧ sumI zs ≤ m * zs.length := by
  induction zs with
  | nil => simp [sumI]
  | cons x r ih =>
    have h1 := h x (by simp)
    have h2 := ih (fun z hz => h z (by simp [hz]))
    rw [sumI_cons, List.length_cons]
    have e : m * ((r.length + 1 : Nat) : Int) = m * r.length + m := by rw [Int.natCast_add, Int.mul_add]; simp
    rw [e]
    omega
def quoAt (s t x : Int) : Int := s * x / t
def remAt (s t x : Int) : Int := s * x % t
def leftAt (s t : Int) (zs : List Int) : Int := s - sumI (zs.map (quoAt s t))
def workB (s : Int) (zs : List Int) : Bool := inB s 0 1000000 && inB zs.length 1 20 && allB zs 0 1000 && decide (sumI zs ≠ 0)
def shareByWork (s : Int) (zs : List Int) : List Int := if workB s zs = true then giveF (leftAt s (sumI zs) zs).toNat (zs.map (quoAt s (sumI zs))) (zs.map (remAt s (sumI zs))) else []
theorem shareByWork_length (s : Int) (zs : List Int) : (shareByWork s zs).length ≤ zs.length := by
  unfold shareByWork
  split
  · rw [giveF_length]; simp
  · simp
theorem workB_iff {s : Int} {zs : List Int} : workB s zs = true ↔ (inB s 0 1000000 = true ∧ inB zs.length 1 20 = true ∧ allB zs 0 1000 = true ∧ sumI zs ≠ 0) := by
  simp [workB, and_assoc]
theorem quo_bds {s t x : Int} (hs : 0 ≤ s ∧ s ≤ 1000000) (hx : 0 ≤ x ∧ x ≤ 1000) (ht : 0 < t) : (0 ≤ s * x ∧ s * x ≤ 1000000000) ∧ (0 ≤ s * x / t ∧ s * x / t ≤ 1000000000) ∧ (0 ≤ s * x % t) := by
  have m1 : 0 ≤ s * x := Int.mul_nonneg hs.1 hx.1
  have m2 : s * x ≤ 1000000 * 1000 := Int.mul_le_mul hs.2 hx.2 hx.1 (by omega)
  have d1 : 0 ≤ s * x / t := Int.ediv_nonneg m1 (by omega)
  have d2 : s * x / t ≤ s * x := Int.ediv_le_self _ m1
  have r1 : 0 ≤ s * x % t := Int.emod_nonneg _ (by omega)
  omega
theorem map_take_succ {α β : Type} (f : α → β) {zs : List α} {k : Nat} (x : α) (h : zs.take (k + 1) = zs.take k ++ [x]) : (zs.take (k + 1)).map f = (zs.take k).map f ++ [f x] := by rw [h, List.map_append]; rfl
theorem take_snoc {zs : List Int} {k : Nat} (h : k < zs.length) : zs.take (k + 1) = zs.take k ++ [zs.getD k 0] := by rw [List.take_succ_eq_append_getElem h, getD_lt h]
theorem leftAt_take (s t : Int) {zs : List Int} {k : Nat} (x : Int) (h : zs.take (k + 1) = zs.take k ++ [x]) : leftAt s t (zs.take (k + 1)) = leftAt s t (zs.take k) - quoAt s t x := by
  have e : ∀ l : List Int, sumI ((l ++ [x]).map (quoAt s t)) = sumI (l.map (quoAt s t)) + quoAt s t x := by
    intro l
    induction l with
    | nil => simp [sumI]
    | cons y l ih => simp only [List.cons_append, List.map_cons, sumI_cons, ih]; omega
  unfold leftAt
  rw [h, e]
  omega
theorem set_bd {A : List Int} {b : Nat} {c m : Int} (h : ∀ z ∈ A, 0 ≤ z ∧ z ≤ m) (hc : 0 ≤ c ∧ c ≤ m + 1) : ∀ z ∈ A.set b c, 0 ≤ z ∧ z ≤ m + 1 := by
  intro z hz
  rcases List.mem_or_eq_of_mem_set hz with h1 | h1
  · have := h z h1; omega
  · omega
def clampI (n l h : Int) : Int := max l (min n h)
theorem clamp_any (n l h : Int) (w : World) : Calls Try.prog 23 #[.int .i64 n, .int .i64 l, .int .i64 h] w fun e w' => e = .returned (.int .i64 (clampI n l h)) ∧ w = w' := by
  go_enter Try.func23, Try.ntmps23
  go_wp2
  all_goals (go_ret; exact ⟨ret_int (by unfold clampI; omega), rfl⟩)
def sumC (zs : List Int) : Int := sumI (zs.map fun z => clampI z 0 1000)
theorem sumC_all {zs : List Int} (h : allB zs 0 1000 = true) : sumC zs = sumI zs := by
  have hm := allB_mem h
  clear h
  unfold sumC
  induction zs with
  | nil => rfl
  | cons x r ih =>
    have h1 := hm x (by simp)
    rw [List.map_cons, sumI_cons, sumI_cons, ih (fun z hz => hm z (by simp [hz]))]
    unfold clampI
    omega
set_option maxHeartbeats 1600000 in
theorem implShareByWork_any (s : Int) (zs : List Int) (hn : zs.length ≤ 1048576) (v : Value) (w : World) (h : RdI w v zs) :
    Calls Try.prog 7 #[.int .i64 s, v] w fun e w' => ∃ u, e = .returned u ∧ OwI w' w.heap.size u (shareByWork s zs) ∧ Below w.heap.size w w' := by
  have HR0 := Lib.hid h
  obtain ⟨ad, cap, bl, off, hv, hcap, hmax, had, hc⟩ := h.open
  subst hv
  have HC := Lib.hid hc
  clear h hc
  have hB2 := below_alloc2 w (.cells #[] 3) (.cells #[] 3)
  have hoS := (OwI.empty w w.heap.size (Nat.le_refl _)).alloc (.cells #[] 3)
  have hrS : OwI ((w.alloc (.cells #[] 3)).alloc (.cells #[] 3)) w.heap.size (.slice (some ⟨w.heap.size + 1, 0, none⟩) 0 0) [] := OwI.empty_at _ _ (World.size_alloc _ _).symm (below_alloc1 _ _).size
  have hjS : Dj (.slice (some ⟨w.heap.size, 0, none⟩) 0 0) (.slice (some ⟨w.heap.size + 1, 0, none⟩) 0 0) := by
    intro j h3 h4
    simp [Value.ownBlock] at h3 h4
    omega
  go_enter Try.func7, Try.ntmps7
  go_wp2
  go_loop [5, 17] (fun t i => ∃ (k : Nat) (q : Int), k ≤ zs.length ∧ i = .int .i64 k ∧ t = .int .i64 q ∧ 0 ≤ q ∧ q ≤ 1000 * k ∧ Hid (q + sumC (zs.drop k) = sumC zs)) (fun _ i => zs.length - (intOf i).toNat)
  case atStart => exact ⟨0, 0, by omega, rfl, rfl, by omega, by omega, by show _ = _; simp⟩
  case round =>
   as_aux_lemma =>
    obtain ⟨k, q, hk, rfl, rfl, q0, q1, H⟩ := hrel
    by_cases hlt : k < zs.length
    · obtain rfl := had (by omega)
      obtain ⟨x, hck, HX⟩ : ∃ x, w.cell? ⟨bl, off + k, none⟩ = some (.int .i64 x) ∧ Hid (zs.drop k = x :: zs.drop (k + 1)) := ⟨_, HC.out k hlt, drop_one hlt⟩
      have c0 : 0 ≤ clampI x 0 1000 := by unfold clampI; omega
      have c1 : clampI x 0 1000 ≤ 1000 := by unfold clampI; omega
      go_wp2_with (go_at_call 23; refine (clamp_any _ _ _ _).mono ?_; rintro e w' ⟨rfl, rfl⟩)
      exact ⟨⟨k + 1, q + clampI x 0 1000, by omega, by go_num, rfl, by omega, by omega, by
        show _ = _
        have e2 := H.out
        unfold sumC at e2 ⊢
        rw [HX.out, List.map_cons, sumI_cons] at e2
        omega⟩, by simp [intOf]; omega⟩
    · obtain rfl : k = zs.length := by omega
      have hq : q = sumC zs := by have e2 := H.out; rw [List.drop_length] at e2; simp [sumC, sumI] at e2 ⊢; exact e2
      clear H
      by_cases hg : workB s zs = true
      · obtain ⟨h1, h2, hall, hz⟩ := workB_iff.1 hg
        have hp : shareByWork s zs = giveF (leftAt s (sumI zs) zs).toNat (zs.map (quoAt s (sumI zs))) (zs.map (remAt s (sumI zs))) := if_pos hg
        have hqs : q = sumI zs := by rw [hq, sumC_all hall]
        rw [← hqs] at hp hz
        clear hq hqs hg
        obtain ⟨T, rfl⟩ : ∃ T, T = q := ⟨_, rfl⟩
        have HP := Lib.hid hp
        clear hp
        obtain ⟨s0, s1⟩ := inB_true.1 h1
        obtain ⟨n0, n1⟩ := inB_true.1 h2
        have hn1 : 1 ≤ zs.length := by omega
        have hn2 : zs.length ≤ 20 := by omega
        obtain rfl := had (by omega)
        have HM := Lib.hid (allB_mem hall)
        have T0 : 0 < T := by omega
        have hz0 : (T == 0) = false := beq_eq_false_iff_ne.2 hz
        go_wp2_with (first | (go_at_call 24; refine (within_any _ _ _ _).mono ?_; rintro e w' ⟨rfl, rfl⟩) | (go_at_call 25; refine (allWithin_any zs _ _ _ _ HR0.out).mono ?_; rintro e w' ⟨rfl, rfl⟩))
        go_loopw [8, 10, 9, 49] (fun vo vl vr i wr => ∃ (k : Nat) (l : Int), k ≤ zs.length ∧ i = .int .i64 k ∧ vl = .int .i64 l ∧ OwI wr w.heap.size vo ((zs.take k).map (quoAt s T)) ∧ OwI wr w.heap.size vr ((zs.take k).map (remAt s T)) ∧ Dj vo vr ∧ Below w.heap.size w wr ∧ Hid (l = leftAt s T (zs.take k)) ∧ l ≤ 1000000 ∧ -1000000000 * k ≤ l) (fun _ _ _ i _ => zs.length - (intOf i).toNat)
        case atStart => exact ⟨0, s, by omega, rfl, rfl, hoS, hrS, hjS, hB2, by show s = _; simp [leftAt, sumI], s1, by omega⟩
        case round =>
         as_aux_lemma =>
          obtain ⟨k, l, hk, rfl, rfl, ho, hr, hj, hB, HL, hl1, hl2⟩ := hrel
          by_cases hlt : k < zs.length
          · obtain ⟨x, hck, hx, HX⟩ : ∃ x, wr.cell? ⟨bl, off + k, none⟩ = some (.int .i64 x) ∧ (0 ≤ x ∧ x ≤ 1000) ∧ Hid (zs.take (k + 1) = zs.take k ++ [x]) := ⟨_, cell_on hB (HC.out k hlt), HM.out _ (by rw [getD_lt hlt]; exact List.getElem_mem hlt), take_snoc hlt⟩
            obtain ⟨⟨p0, p1⟩, ⟨d0, d1⟩, r0⟩ := quo_bds ⟨s0, s1⟩ hx T0
            clear hx
            go_wp2_with (first
              | (at_builtin; refine wpList_pushI rfl (.tmp 53) (.tmp 59) rfl _ _ w.heap.size _ _ rfl ho rfl (by rw [List.length_map, List.length_take]; omega) hB.size ?_; intro v1 w1 o1 hgr hat; have hr1 := hr.kept hgr hj.symm.dis; have hj1 := hj.next hr hat; have hB1 := ho.grown_below hB (Nat.le_refl _) hgr; clear hgr hat)
              | (at_builtin; refine wpList_pushI rfl (.tmp 61) (.tmp 67) rfl _ _ w.heap.size _ _ rfl hr1 rfl (by rw [List.length_map, List.length_take]; omega) hB1.size ?_; intro v2 w2 o2 hgr hat; have o3 := o1.kept hgr hj1.dis; have hj2 := (hj1.symm.next o1 hat).symm; have hB2 := hr1.grown_below hB1 (Nat.le_refl _) hgr; clear hgr hat))
            exact ⟨⟨k + 1, l - s * x / T, by omega, by go_num, rfl, by rw [map_take_succ _ x HX.out]; exact o3, by rw [map_take_succ _ x HX.out]; exact o2, hj2, hB2, by show _ = _; rw [leftAt_take _ _ x HX.out, ← HL.out]; rfl, by omega, by omega⟩, by simp [intOf]; omega⟩
          · obtain rfl : k = zs.length := by omega
            rw [List.take_of_length_le (Nat.le_refl _)] at ho hr HL
            obtain ⟨A, hA, HA⟩ : ∃ A, (∀ z ∈ A, 0 ≤ z ∧ z ≤ 1000000000) ∧ A = zs.map (quoAt s T) := ⟨_, by
              intro z hz
              obtain ⟨y, hy, rfl⟩ := List.mem_map.1 hz
              exact (quo_bds ⟨s0, s1⟩ (HM.out y hy) T0).2.1, rfl⟩
            obtain ⟨R, HR⟩ : ∃ R, R = zs.map (remAt s T) := ⟨_, rfl⟩
            rw [← HA] at ho
            rw [← HR] at hr
            have hAl : A.length = zs.length := by rw [HA]; simp
            have hRl : R.length = zs.length := by rw [HR]; simp
            have HF : Hid (giveF (leftAt s T zs).toNat (zs.map (quoAt s T)) (zs.map (remAt s T)) = giveF l.toNat A R) := by show _ = _; rw [HA, HR, HL.out]
            clear HA HR HL
            obtain ⟨n, hn, hn20, hnA, hnR⟩ : ∃ n : Nat, 1 ≤ n ∧ n ≤ 20 ∧ A.length = n ∧ R.length = n := ⟨zs.length, hn1, hn2, hAl, hRl⟩
            clear hAl hRl
            obtain ⟨aA, cA, rfl, hcA, hcA2, hfA⟩ := ho.form
            obtain ⟨g1, rfl, hg1, _⟩ := hfA (by omega)
            obtain ⟨aR, cR, rfl, hcR, hcR2, hfR⟩ := hr.form
            obtain ⟨g2, rfl, hg2, _⟩ := hfR (by omega)
            have hne : g1 ≠ g2 := fun e => hj g1 rfl (by rw [e]; rfl)
            clear hfA hfR hj
            rw [hnA] at ho ⊢
            rw [hnR] at hr ⊢
            obtain ⟨wo, rfl⟩ : ∃ wo : World, wo = wr := ⟨_, rfl⟩
            have HNA := Lib.hid hnA
            have HNR := Lib.hid hnR
            have HAB := Lib.hid hA
            clear hnA hnR hA
            go_wp2
            go_loopw [10] (fun vl wr => ∃ (A R : List Int) (l : Int), vl = .int .i64 l ∧ OwI wr w.heap.size (.slice (some ⟨g1, 0, none⟩) n cA) A ∧ OwI wr w.heap.size (.slice (some ⟨g2, 0, none⟩) n cR) R ∧ Below w.heap.size w wr ∧ l ≤ 1000000 ∧ -20000000000 ≤ l ∧ Hid (A.length = n ∧ R.length = n ∧ (∀ z ∈ A, 0 ≤ z ∧ z ≤ 1001000000 - l) ∧ giveF l.toNat A R = giveF (leftAt s T zs).toNat (zs.map (quoAt s T)) (zs.map (remAt s T)))) (fun vl _ => (intOf vl).toNat)
            case atStart => exact ⟨A, R, l, rfl, ho, hr, hB, hl1, by omega, HNA.out, HNR.out, fun z hz => by have := HAB.out z hz; omega, HF.out.symm⟩
            case round =>
             as_aux_lemma =>
              obtain ⟨A, R, l, rfl, ho, hr, hB, hl1, hl2, HI⟩ := hrel
              by_cases hl0 : 0 < l
              · obtain ⟨wp, rfl⟩ : ∃ wp : World, wp = wr := ⟨_, rfl⟩
                go_wp2
                go_loopw [13, 83] (fun vb i wr => ∃ (k b : Nat), k ≤ n ∧ b < n ∧ i = .int .i64 k ∧ vb = .int .i64 b ∧ Dr wp wr ∧ Hid (bestFrom R k b (n - k) = bestF R)) (fun _ i _ => n - (intOf i).toNat)
                case atStart => exact ⟨0, 0, by omega, by omega, rfl, rfl, Dr.refl _, by show _ = _; rw [Nat.sub_zero, ← HI.out.2.1]; rfl⟩
                case round =>
                 as_aux_lemma =>
                  obtain ⟨k, b, hk, hb, rfl, rfl, hD, HBF⟩ := hrel
                  by_cases hkn : k < n
                  · obtain ⟨x, y, hcx, hcy, HXY⟩ : ∃ x y, wr.cell? ⟨g2, k, none⟩ = some (.int .i64 x) ∧ wr.cell? ⟨g2, b, none⟩ = some (.int .i64 y) ∧ Hid (x = R.getD k 0 ∧ y = R.getD b 0) :=
                      ⟨_, _, hD.cell (hr.cell (by rw [HI.out.2.1]; exact hkn)).1, hD.cell (hr.cell (by rw [HI.out.2.1]; exact hb)).1, rfl, rfl⟩
                    have q1 : (k : Int) < (n : Int) := by omega
                    have q2 : (b : Int) < (n : Int) := by omega
                    have hst : n - k = (n - (k + 1)) + 1 := by omega
                    have HST := Lib.hid hst
                    clear hst
                    by_cases hxy : y < x
                    · go_wp2
                      go_quiet (fail)
                      go_wp2
                      exact ⟨⟨k + 1, k, by omega, hkn, by go_num, rfl, hD.next _, by show _ = _; rw [← HBF.out, HST.out, bestFrom_step, if_pos (by rw [← HXY.out.1, ← HXY.out.2]; exact hxy)]⟩, by simp [intOf]; omega⟩
                    · go_wp2
                      go_quiet (fail)
                      go_wp2
                      exact ⟨⟨k + 1, b, by omega, hb, by go_num, rfl, hD.next _, by show _ = _; rw [← HBF.out, HST.out, bestFrom_step, if_neg (by rw [← HXY.out.1, ← HXY.out.2]; omega)]⟩, by simp [intOf]; omega⟩
                  · obtain rfl : k = n := by omega
                    have hbf : b = bestF R := by rw [← HBF.out, Nat.sub_self]; rfl
                    have HBB := Lib.hid hbf
                    clear hbf HBF
                    replace ho := ho.below hD.below
                    replace hr := hr.below hD.below
                    replace hB := bvia hB hD.below
                    have hbA : b < A.length := by rw [HI.out.1]; exact hb
                    have hbR : b < R.length := by rw [HI.out.2.1]; exact hb
                    obtain ⟨z, hcz, hfz, hz, HZ⟩ : ∃ z, wr.cell? ⟨g1, b, none⟩ = some (.int .i64 z) ∧ wr.frozen? ⟨g1, b, none⟩ = false ∧ (0 ≤ z ∧ z ≤ 1001000000 - l) ∧ Hid (z = A.getD b 0) :=
                      ⟨_, (ho.cell hbA).1, (ho.cell hbA).2, HI.out.2.2.1 _ (by rw [getD_lt hbA]; exact List.getElem_mem hbA), rfl⟩
                    obtain ⟨z0, z1⟩ := hz
                    obtain ⟨ho1, hgo⟩ := ho.set b (z + 1)
                    have hr1 := hr.kept (u := .slice (some ⟨g1, 0, none⟩) k cA) hgo (dis_addr hne.symm)
                    obtain ⟨hcy, hfy⟩ := hr1.cell hbR
                    obtain ⟨hr2, hgr⟩ := hr1.set b (-1)
                    have ho2 := ho1.kept (u := .slice (some ⟨g2, 0, none⟩) k cR) hgr (dis_addr hne)
                    have hB1 : Below w.heap.size w ((wr.setCell ⟨g1, b, none⟩ (.int .i64 (z + 1))).setCell ⟨g2, b, none⟩ (.int .i64 (-1))) := (hB.setCell hg1 _).setCell hg2 _
                    have H2 : Hid ((A.set b (z + 1)).length = k ∧ (R.set b (-1)).length = k ∧ (∀ y ∈ A.set b (z + 1), 0 ≤ y ∧ y ≤ 1001000000 - (l - 1)) ∧ giveF (l - 1).toNat (A.set b (z + 1)) (R.set b (-1)) = giveF (leftAt s T zs).toNat (zs.map (quoAt s T)) (zs.map (remAt s T))) := by
                      obtain ⟨e1, e2, e3, e4⟩ := HI.out
                      refine ⟨by simp [e1], by simp [e2], fun y hy => ?_, ?_⟩
                      · have := set_bd (m := 1001000000 - l) (b := b) (c := z + 1) e3 (by omega) y hy
                        omega
                      · rw [← e4, show l.toNat = (l - 1).toNat + 1 by omega, HZ.out, HBB.out]
                        rfl
                    clear ho1 hr hr1 ho hgo hgr HZ HI hbA hbR
                    have HO2 := Lib.hid (And.intro ho2 hr2)
                    clear ho2 hr2
                    go_wp2
                    exact ⟨⟨A.set b (z + 1), R.set b (-1), l - 1, by go_num, HO2.out.1, HO2.out.2, hB1, by omega, by omega, H2⟩, by simp [intOf]; omega⟩
              · go_wp2
                go_ret
                have e : A = giveF (leftAt s T zs).toNat (zs.map (quoAt s T)) (zs.map (remAt s T)) := by
                  rw [← HI.out.2.2.2, show l.toNat = 0 by omega]; rfl
                refine ⟨_, rfl, ?_, hB⟩
                rw [HP.out, ← e]
                exact ho
      · have hp : shareByWork s zs = [] := if_neg hg
        have HP := Lib.hid hp
        clear hp
        have hg' : ¬ (inB s 0 1000000 = true ∧ inB zs.length 1 20 = true ∧ allB zs 0 1000 = true ∧ q ≠ 0) := fun hh => hg (workB_iff.2 ⟨hh.1, hh.2.1, hh.2.2.1, by rw [← sumC_all hh.2.2.1, ← hq]; exact hh.2.2.2⟩)
        clear hg hq
        by_cases hz : q = 0
        · have hz0 : (q == 0) = true := beq_iff_eq.2 hz
          clear hz
          go_wp2_with (first | (go_at_call 24; refine (within_any _ _ _ _).mono ?_; rintro e w' ⟨rfl, rfl⟩) | (go_at_call 25; refine (allWithin_any zs _ _ _ _ HR0.out).mono ?_; rintro e w' ⟨rfl, rfl⟩))
          all_goals (go_ret; exact ⟨_, rfl, by rw [HP.out]; exact OwI.nil _ _, Below.refl _ _⟩)
        · have hz0 : (q == 0) = false := beq_eq_false_iff_ne.2 hz
          go_wp2_with (first | (go_at_call 24; refine (within_any _ _ _ _).mono ?_; rintro e w' ⟨rfl, rfl⟩) | (go_at_call 25; refine (allWithin_any zs _ _ _ _ HR0.out).mono ?_; rintro e w' ⟨rfl, rfl⟩))
          all_goals first | (go_ret; exact ⟨_, rfl, by rw [HP.out]; exact OwI.nil _ _, Below.refl _ _⟩) | (exfalso; simp_all; done)
end Go.Proofs.Ytkkcglncjdoacaa
