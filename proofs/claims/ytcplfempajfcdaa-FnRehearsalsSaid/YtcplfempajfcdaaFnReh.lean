/- The walk of the law FnRehearsals: merged notes have the same cues, and a rehearsal begins with the hardest one. -/
import Derived.Test.YtcplfempajfcdaaPlan
import Derived.Test.YtcplfempajfcdaaMerge
import Derived.Test.YtcplfempajfcdaaDraw
namespace Go.Proofs.Ytcplfempajfcdaa
open Go.ChangeShapes Go.WideShapes Go.ChangeAt Go.RowKit Go.Joins
set_option linter.unusedSimpArgs false
set_option linter.unusedVariables false

/-! ### Plain laws -/
def tot : List Nt → Int
  | [] => 0
  | x :: r => x.2.2 + tot r
theorem tot_snoc (A : List Nt) (x : Nt) : tot (A ++ [x]) = tot A + x.2.2 := by
  induction A with
  | nil => simp [tot]
  | cons y r ih => rw [List.cons_append, tot, tot, ih]; omega
theorem tot_bd {zs : List Nt} (h : ∀ x ∈ zs, 1 ≤ x.2.2 ∧ x.2.2 ≤ 9) : 0 ≤ tot zs ∧ tot zs ≤ 9 * zs.length := by
  induction zs with
  | nil => simp [tot]
  | cons y r ih =>
    have h1 := h y (by simp)
    have h2 := ih fun x hx => h x (List.mem_cons_of_mem _ hx)
    rw [tot, List.length_cons]
    omega
theorem weightF_bd (p : Int) {zs : List Nt} (h : ∀ x ∈ zs, 1 ≤ x.2.2 ∧ x.2.2 ≤ 9) : 0 ≤ weightF p zs ∧ weightF p zs ≤ 9 * zs.length := by
  induction zs with
  | nil => simp [weightF]
  | cons y r ih =>
    have h1 := h y (by simp)
    have h2 := ih fun x hx => h x (List.mem_cons_of_mem _ hx)
    rw [weightF, List.length_cons]
    split <;> omega
def psum (zs : List Nt) : Nat → Int
  | 0 => 0
  | k + 1 => psum zs k + weightF k zs
theorem psum_cons (y : Nt) (r : List Nt) (k : Nat) : psum (y :: r) k = psum r k + if 0 ≤ y.2.1 ∧ y.2.1 < k then y.2.2 else 0 := by
  induction k with
  | zero => simp [psum]; omega
  | succ k ih =>
    rw [psum, ih, psum, weightF]
    by_cases h1 : y.2.1 = (k : Int)
    · rw [if_pos h1, if_neg (by omega), if_pos (by omega)]; omega
    · rw [if_neg h1]
      by_cases h2 : 0 ≤ y.2.1 ∧ y.2.1 < (k : Int)
      · rw [if_pos h2, if_pos (by omega)]; omega
      · rw [if_neg h2, if_neg (by omega)]; omega
theorem psum_all {zs : List Nt} (h : ∀ x ∈ zs, 0 ≤ x.2.1 ∧ x.2.1 ≤ 5) : psum zs 6 = tot zs := by
  induction zs with
  | nil => rfl
  | cons y r ih =>
    have h1 := h y (by simp)
    have h2 := ih fun x hx => h x (List.mem_cons_of_mem _ hx)
    rw [psum_cons, if_pos (by omega), h2, tot]
    omega
theorem psum_bd {zs : List Nt} (h : ∀ x ∈ zs, 1 ≤ x.2.2 ∧ x.2.2 ≤ 9) (k : Nat) : 0 ≤ psum zs k ∧ psum zs k ≤ 9 * zs.length * k := by
  induction k with
  | zero => simp [psum]
  | succ k ih =>
    have h1 := weightF_bd k h
    rw [psum]
    have e : 9 * (zs.length : Int) * ((k + 1 : Nat) : Int) = 9 * zs.length * k + 9 * zs.length := by rw [Int.natCast_add, Int.mul_add]; simp
    rw [e]
    omega
theorem wsum_pos {c : Int} {zs : List Nt} (h : ∀ x ∈ zs, 1 ≤ x.2.2 ∧ x.2.2 ≤ 9) {x : Nt} (hx : x ∈ zs) (hc : x.1 = c) : 0 < wsum c zs := by
  induction zs with
  | nil => simp at hx
  | cons y r ih =>
    have h1 := h y (by simp)
    have h2 := wsum_bd c r fun x hx => h x (List.mem_cons_of_mem _ hx)
    rw [wsum]
    rcases List.mem_cons.1 hx with rfl | hx
    · rw [if_pos hc]; omega
    · have := ih (fun x hx => h x (List.mem_cons_of_mem _ hx)) hx
      split <;> omega
section
variable {zs : List Nt} (h : notesB zs = true)
include h
theorem nb_bd : ∀ x ∈ zs, 1 ≤ x.2.2 ∧ x.2.2 ≤ 9 := fun x hx => ((notesB_bd h).2 x hx).2.2
theorem plan_has {x : Nt} (hx : x ∈ zs) : (planF (sumsL zs) 12).any (· == x.1) = true := by
  have hb := (notesB_bd h).2 x hx
  refine List.any_eq_true.2 ⟨x.1, ((planF_spec _ 12).2 x.1).2 ⟨hb.1.1, by omega, ?_⟩, by simp⟩
  unfold val
  rw [sumsL_get zs (by omega), Int.toNat_of_nonneg hb.1.1]
  have := wsum_pos (nb_bd h) hx rfl
  omega
theorem plan_600 : planR zs 600 = planF (sumsL zs) 12 := by
  have := planF_length (sumsL zs) 12
  rw [planR, if_pos ⟨h, rfl⟩, List.take_of_length_le (by have e : ((600 : Int) / 5).toNat = 120 := rfl
                                                         omega)]
theorem plan_ne (hz : zs ≠ []) : 0 < (planF (sumsL zs) 12).length := by
  obtain ⟨x, hx⟩ := List.exists_mem_of_ne_nil zs hz
  obtain ⟨y, hy, _⟩ := List.any_eq_true.1 (plan_has h hx)
  exact List.length_pos_of_mem hy
theorem plan_9 (hz : zs ≠ []) : (planR zs 9).length = 1 := by
  have := plan_ne h hz
  have e : ((9 : Int) / 5).toNat = 1 := rfl
  rw [planR, if_pos ⟨h, rfl⟩, e, List.length_take]
  omega
theorem plan_4 : planR zs 4 = [] := by
  have e : ((4 : Int) / 5).toNat = 0 := rfl
  rw [planR, if_pos ⟨h, rfl⟩, e, List.take_zero]
end
theorem plan_nil : planF (sumsL []) 12 = [] := by
  have hm := (planF_spec (sumsL []) 12).2
  refine List.eq_nil_iff_forall_not_mem.2 fun e he => ?_
  obtain ⟨h0, h1, h2⟩ := (hm e).1 he
  apply h2
  unfold val
  rw [sumsL_get [] (by omega)]
  rfl
/-- The place of the first greatest number. -/
theorem bestFrom_spec (R : List Int) (m : Nat) : ∀ (k b : Nat), b ≤ k → (∀ i, i < k → R.getD i 0 ≤ R.getD b 0 ∧ (i < b → R.getD i 0 < R.getD b 0)) →
    bestFrom R k b m < max (b + 1) (k + m) ∧ ∀ i, i < k + m → R.getD i 0 ≤ R.getD (bestFrom R k b m) 0 ∧ (i < bestFrom R k b m → R.getD i 0 < R.getD (bestFrom R k b m) 0) := by
  induction m with
  | zero => intro k b hb h; exact ⟨by show b < _; omega, fun i hi => h i (by omega)⟩
  | succ m ih =>
    intro k b hb h
    rw [bestFrom_step]
    by_cases hlt : R.getD b 0 < R.getD k 0
    · rw [if_pos hlt]
      obtain ⟨h1, h2⟩ := ih (k + 1) k (by omega) (fun i hi => by
        by_cases hik : i = k
        · subst hik; exact ⟨Int.le_refl _, by omega⟩
        · have := h i (by omega)
          exact ⟨by omega, fun _ => by omega⟩)
      exact ⟨by omega, fun i hi => h2 i (by omega)⟩
    · rw [if_neg hlt]
      obtain ⟨h1, h2⟩ := ih (k + 1) b (by omega) (fun i hi => by
        by_cases hik : i = k
        · subst hik; exact ⟨by omega, fun h => by omega⟩
        · exact h i (by omega))
      exact ⟨by omega, fun i hi => h2 i (by omega)⟩
theorem plan_first {zs : List Nt} (h : notesB zs = true) (hz : zs ≠ []) : (planF (sumsL zs) 12).getD 0 0 = hardF zs := by
  have hp := plan_ne h hz
  have ht := topF_next (sums_nonneg h) hp
  rw [List.take_zero] at ht
  have hz0 : zer (sumsL zs) [] = sumsL zs := rfl
  rw [hz0] at ht
  rw [List.getD_eq_getElem?_getD, List.getElem?_eq_getElem hp, Option.getD_some, ← ht]
  have hzl : zs.length ≠ 0 := fun e => hz (List.eq_nil_of_length_eq_zero e)
  rw [hardF, if_pos ⟨h, hzl⟩]
  obtain ⟨b1, b2⟩ := bestFrom_spec (sumsL zs) 12 0 0 (Nat.le_refl _) (fun i hi => by omega)
  have hb : bestFrom (sumsL zs) 0 0 12 = bestF (sumsL zs) := rfl
  rw [hb] at b1 b2
  obtain ⟨e0, e1, e2⟩ := ((planF_spec (sumsL zs) 12).2 _).1 (List.getElem_mem hp)
  rcases topF_spec (sumsL zs) 12 with ⟨t1, t2⟩ | ⟨b, hb12, t1, t2, t3⟩
  · rw [ht] at t1
    omega
  · rw [t1]
    have c1 := b2 b (by omega)
    have c2 := t3 (bestF (sumsL zs)) (by omega)
    have : b = bestF (sumsL zs) := by
      rcases Nat.lt_trichotomy b (bestF (sumsL zs)) with h1 | h1 | h1
      · have := c1.2 h1; omega
      · exact h1
      · have := c2.2 h1; omega
    rw [this]
theorem betF_ge {A B : List Int} {m : Nat} : ∀ {k : Nat} {l : Bool}, (∀ i, k ≤ i → i < k + m → B.getD i 0 ≤ A.getD i 0) → (betF A B k m l = true ↔ l = true ∨ ∃ i, k ≤ i ∧ i < k + m ∧ B.getD i 0 < A.getD i 0) := by
  induction m with
  | zero => intro k l _; simp only [betF]; exact ⟨.inl, fun h => by rcases h with h | ⟨i, h1, h2, _⟩; exact h; omega⟩
  | succ m ih =>
    intro k l h
    have hk := h k (Nat.le_refl _) (by omega)
    rw [betF_go (by omega), ih (fun i h1 h2 => h i (by omega) (by omega))]
    constructor
    · rintro (h1 | ⟨i, h1, h2, h3⟩)
      · rw [Bool.or_eq_true, decide_eq_true_eq] at h1
        rcases h1 with h1 | h1
        · exact .inl h1
        · exact .inr ⟨k, Nat.le_refl _, by omega, h1⟩
      · exact .inr ⟨i, by omega, by omega, h3⟩
    · rintro (h1 | ⟨i, h1, h2, h3⟩)
      · exact .inl (by rw [h1]; rfl)
      · by_cases hik : i = k
        · subst hik
          exact .inl (by rw [decide_eq_true h3, Bool.or_true])
        · exact .inr ⟨i, by omega, by omega, h3⟩
theorem betF_lt {A B : List Int} {m : Nat} : ∀ {k : Nat} {l : Bool}, (∃ i, k ≤ i ∧ i < k + m ∧ A.getD i 0 < B.getD i 0) → betF A B k m l = false := by
  induction m with
  | zero => rintro k l ⟨i, h1, h2, _⟩; omega
  | succ m ih =>
    rintro k l ⟨i, h1, h2, h3⟩
    by_cases hk : A.getD k 0 < B.getD k 0
    · exact betF_no hk
    · rw [betF_go hk]
      refine ih ⟨i, ?_, by omega, h3⟩
      rcases Nat.lt_or_ge k i with h4 | h4
      · exact h4
      · obtain rfl : i = k := by omega
        exact absurd h3 hk
theorem better_self (zs : List Nt) : betterB zs zs = false := by
  unfold betterB
  have h := betF_ge (A := sumsL zs) (B := sumsL zs) (k := 0) (m := 12) (l := false) (fun i _ _ => Int.le_refl _)
  have : betF (sumsL zs) (sumsL zs) 0 12 false = false := by
    rw [Bool.eq_false_iff]
    intro ht
    rcases h.1 ht with h1 | ⟨i, _, _, h3⟩
    · cases h1
    · omega
  rw [this, Bool.and_false]
section
variable {x : Nt} {r : List Nt} (h : notesB (x :: r) = true)
include h
theorem notesB_tail : notesB r = true := by
  simp only [notesB, Bool.and_eq_true, decide_eq_true_eq, allNotes_cons, List.length_cons] at h ⊢
  exact ⟨h.1.2, by omega⟩
theorem sums_step (i : Nat) (hi : i < 12) : (sumsL r).getD i 0 ≤ (sumsL (x :: r)).getD i 0 ∧ (x.1 = i → (sumsL r).getD i 0 < (sumsL (x :: r)).getD i 0) := by
  have hb := nb_bd h x (by simp)
  rw [sumsL_get _ hi, sumsL_get _ hi, wsum]
  split
  · exact ⟨by omega, fun _ => by omega⟩
  · rename_i hne; exact ⟨by omega, fun e => absurd e hne⟩
theorem better_tail : betterB (x :: r) r = true := by
  have hc := ((notesB_bd h).2 x (by simp)).1
  unfold betterB
  rw [h, notesB_tail h, Bool.true_and, Bool.true_and]
  exact (betF_ge (fun i _ hi => (sums_step h i (by omega)).1)).2 (.inr ⟨x.1.toNat, by omega, by omega, (sums_step h _ (by omega)).2 (by omega)⟩)
theorem better_tail' : betterB r (x :: r) = false := by
  have hc := ((notesB_bd h).2 x (by simp)).1
  unfold betterB
  rw [betF_lt ⟨x.1.toNat, by omega, by omega, (sums_step h _ (by omega)).2 (by omega)⟩, Bool.and_false]
end
theorem merge_ok {zs : List Nt} (h : notesB zs = true) : notesB (mergeR zs) = true := by
  have h1 := (notesB_bd h).1
  have h2 := mergeR_length zs
  have h3 : Mgd (mergeF zs) := mgd_merge (notesB_all h)
  rw [mergeR, if_pos h] at h2 ⊢
  simp only [notesB, Bool.and_eq_true, decide_eq_true_eq]
  exact ⟨List.all_eq_true.2 h3.1, by omega⟩
theorem merge_ne {x : Nt} {r : List Nt} (h : notesB (x :: r) = true) : (mergeR (x :: r)).length ≠ 0 := by
  rw [mergeR, if_pos h]
  have : ∀ (A C : List Nt), C.length ≤ (A.foldl stepM C).length := by
    intro A
    induction A with
    | nil => intro C; exact Nat.le_refl _
    | cons y s ih =>
      intro C
      refine Nat.le_trans ?_ (ih (stepM C y))
      unfold stepM
      split <;> simp
  have h1 := this r [x]
  have e : mergeF (x :: r) = r.foldl stepM [x] := rfl
  rw [e]
  simp at h1
  omega
theorem merge_apart {zs : List Nt} (h : notesB zs = true) {i k : Nat} {a b : Nt} (ha : (mergeR zs)[i]? = some a) (hb : (mergeR zs)[k]? = some b) (hik : i < k) : keyB a b = false := by
  have h3 : Mgd (mergeF zs) := mgd_merge (notesB_all h)
  rw [mergeR, if_pos h] at ha hb
  have := List.pairwise_iff_getElem.1 h3.2 i k (List.getElem?_eq_some_iff.1 ha).1 (List.getElem?_eq_some_iff.1 hb).1 hik
  rwa [(List.getElem?_eq_some_iff.1 ha).2, (List.getElem?_eq_some_iff.1 hb).2] at this

/-! ### The draws -/
set_option maxHeartbeats 800000 in
theorem l27List_any (B g : Nat) (w : World) (h : Cur w B g) :
    Calls Try.prog 39 #[.pointer (some ⟨g, 0, none⟩)] w fun e w' => ∃ u, e = .returned u ∧ ∃ zs, OwNote w' B u zs ∧ notesB zs = true ∧ Below B w w' := by
  obtain ⟨hBg, hgw⟩ := h.lt'
  have hBw : B ≤ w.heap.size := by omega
  have hc := h.below (below_alloc1 w (.cells #[] 42))
  have hB := (below_alloc1 w (.cells #[] 42)).mono hBw
  have HE := Lib.hid (OwNote.empty w w.heap.size (Nat.le_refl _))
  go_enter Try.func39, Try.ntmps39
  go_wp2_with (fail)
  refine (l01Below_any B g 9 (by omega) _ hc).mono ?_
  rintro e w1 ⟨m, rfl, m0, m1, _, hc1, hg⟩
  replace hB := below_cur hB hg hBg (by simp; omega)
  replace HE := Lib.hid (HE.out.kept hg (dis_cur HE.out.lt hgw))
  clear hg hc
  replace m1 := m1 (by omega)
  go_wp2_with (fail)
  go_loopw [3, 5] (fun u i wr => ∃ (k : Nat) (A : List Nt), (k : Int) ≤ m ∧ i = .int .i64 k ∧ OwNote wr w.heap.size u A ∧ A.length = k ∧ Cur wr B g ∧ Below B w wr ∧ Hid (allNotes A = true)) (fun _ i _ => (m - intOf i).toNat)
  case atStart => exact ⟨0, [], by omega, rfl, HE.out, rfl, hc1, hB, rfl⟩
  case round =>
    clear HE hB hc1
    obtain ⟨k, A, hk, rfl, ho, hA, hc, hB, HA⟩ := hrel
    have hs := hB.size
    by_cases hlt : (k : Int) < m
    · go_wp2_with (fail)
      refine (l01Below_any B g 5 (by omega) _ hc).mono ?_
      rintro e w2 ⟨x0, rfl, p0, p1, _, hc2, hg⟩
      replace hB := below_cur hB hg hBg (by omega)
      replace ho := ho.kept hg (dis_cur ho.lt hgw)
      clear hg hc
      go_wp2_with (fail)
      refine (l01Below_any B g 4 (by omega) _ hc2).mono ?_
      rintro e w3 ⟨x1, rfl, s0, s1, _, hc3, hg⟩
      replace hB := below_cur hB hg hBg (by have := hB.size; omega)
      replace ho := ho.kept hg (dis_cur ho.lt hgw)
      clear hg hc2
      go_wp2_with (fail)
      refine (l01Below_any B g 6 (by omega) _ hc3).mono ?_
      rintro e w4 ⟨x2, rfl, t0, t1, _, hc4, hg⟩
      replace hB := below_cur hB hg hBg (by have := hB.size; omega)
      replace ho := ho.kept hg (dis_cur ho.lt hgw)
      clear hg hc3
      replace p1 := p1 (by omega)
      replace s1 := s1 (by omega)
      replace t1 := t1 (by omega)
      have hs4 := hB.size
      have hN : noteB (x0, x1, 1 + x2) = true := by simp [noteB, inB]; omega
      have HN : Hid (allNotes (A ++ [(x0, x1, 1 + x2)]) = true) := by show _ = _; unfold allNotes; rw [List.all_append]; simp [hN]; exact fun a b c hx => List.all_eq_true.1 HA.out _ hx
      have hcc := hc4.below (below_alloc1 w4 (.cells #[.int .i64 x0, .int .i64 x1, .int .i64 (1 + x2)] 42))
      have hB3 := hB.alloc (by omega) (.cells #[.int .i64 x0, .int .i64 x1, .int .i64 (1 + x2)] 42)
      go_wp2_with (at_builtin; refine wpList_appNote rfl (.tmp 14) (.tmp 23) rfl _ w.heap.size _ A rfl (ho.alloc _) _ [(x0, x1, 1 + x2)] rfl (rdNote_one _ _ _ _) (by simp; omega) (by simp; omega) ?_; intro v1 w5 o1 hgr _; have hd5 := dis_cur' ho.lt hgw; have hc5 := hcc.kept hgr (fun k hk => by have := (ho.lt k hk).1; omega) hd5; have hB5 := hB3.grown hgr (by simp; omega) (fun k hk => by have := (ho.lt k hk).1; omega); clear hgr hcc hB3 hd5)
      exact ⟨⟨k + 1, A ++ [(x0, x1, 1 + x2)], by omega, by go_num, o1, by simp; omega, hc5, hB5, HN⟩, by simp [intOf]; omega⟩
    · go_wp2
      go_ret
      refine ⟨_, rfl, A, ho.base hBw, ?_, hB⟩
      simp only [notesB, Bool.and_eq_true, decide_eq_true_eq]
      exact ⟨HA.out, by omega⟩
theorem drawNotes_any (n : Nat) (v : Value) (w : World) (h : RdB w w.heap.size v n) :
    Calls Try.prog 31 #[v] w fun e w' => ∃ u, e = .returned u ∧ ∃ zs, OwNote w' w.heap.size u zs ∧ notesB zs = true ∧ Below w.heap.size w w' := by
  go_enter Try.func31, Try.ntmps31
  go_wp2_with (fail)
  refine (l01New_any n v w h).mono ?_
  rintro e w1 ⟨g, rfl, hc, hb⟩
  go_wp2_with (fail)
  refine (l27List_any _ g w1 hc).mono ?_
  rintro e w2 ⟨u, rfl, zs, ho, hD, hb2⟩
  go_wp2_with (fail)
  go_ret
  exact ⟨u, rfl, zs, ho, hD, hb.trans hb2⟩
theorem has_any (zs : List Int) (q : Int) (v : Value) (w : World) (h : RdI w v zs) : Calls Try.prog 32 #[v, .int .i64 q] w fun e w' => e = .returned (.bool (zs.any (· == q))) ∧ w = w' := by
  obtain ⟨ad, cap, bl, off, rfl, hcap, hmax, had, hc⟩ := h.open
  have HC := Lib.hid hc
  clear h hc
  go_enter Try.func32, Try.ntmps32
  go_wp2
  go_loop [5] (fun i => ∃ k : Nat, k ≤ zs.length ∧ i = .int .i64 k ∧ Hid ((zs.drop k).any (· == q) = zs.any (· == q))) (fun i => zs.length - (intOf i).toNat)
  case atStart => exact ⟨0, Nat.zero_le _, rfl, rfl⟩
  case round =>
    obtain ⟨k, hk, rfl, H⟩ := hrel
    by_cases hlt : k < zs.length
    · obtain rfl := had (by omega)
      obtain ⟨x, hck, HX⟩ : ∃ x, w.cell? ⟨bl, off + k, none⟩ = some (.int .i64 x) ∧ Hid (zs.drop k = x :: zs.drop (k + 1)) := ⟨_, HC.out k hlt, by rw [getD_lt hlt]; exact drop_get zs k hlt⟩
      by_cases hx : x = q
      · subst hx
        go_wp2
        go_ret
        exact ⟨ret_bool (by rw [← H.out, HX.out]; simp), rfl⟩
      · have hxb : (x == q) = false := beq_eq_false_iff_ne.2 hx
        go_wp2
        exact ⟨⟨k + 1, by omega, by go_num, by show _ = _; rw [← H.out, HX.out, List.any_cons, hxb]; rfl⟩, by simp [intOf]; omega⟩
    · go_wp2
      go_ret
      obtain rfl : k = zs.length := by omega
      exact ⟨ret_bool (by rw [← H.out, List.drop_length]; rfl), rfl⟩
theorem RdNote.tail {w : World} {zs : List Nt} {bl off cap : Nat} (h : RdNote w (.slice (some ⟨bl, off, none⟩) zs.length cap) zs) (hk : 1 ≤ zs.length) :
    RdNote w (.slice (if cap = 1 then some ⟨bl, off, none⟩ else some ⟨bl, off + 3, none⟩) (zs.length - 1) (cap - 1)) (zs.drop 1) := by
  obtain ⟨a, cap', b', off', hv, h1, h2, h3, h4⟩ := h
  simp only [Value.slice.injEq] at hv
  obtain ⟨rfl, _, rfl⟩ := hv
  have hsplit : flNote zs = flNote (zs.take 1) ++ flNote (zs.drop 1) := by rw [← flNote_append, List.take_append_drop]
  have hlt : (flNote (zs.take 1)).length = 3 := by rw [flNote_length, List.length_take]; omega
  refine ⟨_, cap - 1, bl, off + 3, by rw [List.length_drop], by rw [List.length_drop]; omega, by omega, fun hp => ?_, fun j u hj => ?_⟩
  · rw [flNote_length, List.length_drop] at hp
    rw [if_neg (by omega)]
  · have hpos : 0 < (flNote zs).length := by
      rw [hsplit, List.length_append]
      have := (List.getElem?_eq_some_iff.1 hj).1
      omega
    have he := h3 hpos
    simp only [Option.some.injEq, Addr.mk.injEq] at he
    obtain ⟨rfl, rfl, _⟩ := he
    rw [Nat.add_assoc]
    refine h4 (3 + j) u ?_
    rw [hsplit, List.getElem?_append_right (by omega), hlt, Nat.add_sub_cancel_left]
    exact hj

/-! ### The law -/
set_option maxHeartbeats 3200000 in
set_option maxRecDepth 100000 in
theorem walkFnRehearsals (n : Nat) (v : Value) (w : World) (hr : RdB w w.heap.size v n) : Calls Try.prog 9 #[v] w fun e w' => e = .returned (.bool true) ∧ Below w.heap.size w w' := by
  by_cases hbig : n ≤ 1048576
  · have hbd : decide (1048576 < n) = false := decide_eq_false (by omega)
    have hB := Below.refl w.heap.size w
    go_enter Try.func9, Try.ntmps9
    go_wp2_with (fail)
    refine (big_any n _ _ _ hr).mono ?_
    rintro e w1 ⟨rfl, rfl⟩
    go_wp2_with (fail)
    refine (drawNotes_any n _ _ hr).mono ?_
    rintro e w2 ⟨ul, rfl, zs, ol, hD, hb⟩
    have zol := hB.size
    replace hB := bvia hB hb
    clear hb
    have hl40 := (notesB_bd hD).1
    have HD := Lib.hid hD
    clear hD hr
    go_wp2_with (fail)
    refine (implMergedNotes_any zs _ _ ol.rd).mono ?_
    rintro e w3 ⟨um, rfl, om, hb⟩
    have zom := hB.size
    replace ol := ol.below hb
    replace hB := bvia hB hb
    clear hb
    replace om := om.base zom
    go_wp2_with (fail)
    refine (implHardestCue_any zs _ _ ol.rd).mono ?_
    rintro e w4 ⟨rfl, hb⟩
    replace ol := ol.below hb
    replace om := om.below hb
    replace hB := bvia hB hb
    clear hb
    go_wp2_with (fail)
    refine (implRehearsalPlan_any zs 600 _ _ ol.rd).mono ?_
    rintro e w5 ⟨up, rfl, op, hb⟩
    have zop := hB.size
    replace ol := ol.below hb
    replace om := om.below hb
    replace hB := bvia hB hb
    clear hb
    replace op := op.base zop
    rw [plan_600 HD.out] at op
    go_wp2_with (fail)
    have HH := Lib.hid (And.intro ol (And.intro om op))
    clear ol om op
    go_loopw [7, 9] (fun s i wr => ∃ k : Nat, k ≤ 6 ∧ i = .int .i64 k ∧ s = .int .i64 (psum zs k) ∧ Below w.heap.size w wr ∧ Hid (OwNote wr w.heap.size ul zs ∧ OwNote wr w.heap.size um (mergeR zs) ∧ OwI wr w.heap.size up (planF (sumsL zs) 12))) (fun _ i _ => 6 - (intOf i).toNat)
    case atStart => exact ⟨0, by omega, rfl, rfl, hB, HH.out⟩
    case round =>
      clear HH hB
      obtain ⟨k, hk, rfl, rfl, hB, HH⟩ := hrel
      by_cases hlt : k < 6
      · obtain ⟨ol, om, op⟩ := HH.out
        clear HH
        go_wp2_with (fail)
        refine (implWeightOf_any zs k _ _ ol.rd).mono ?_
        rintro e w6 ⟨rfl, hb⟩
        replace ol := ol.below hb
        replace om := om.below hb
        replace op := op.below hb
        replace hB := bvia hB hb
        clear hb
        rw [show weightOf zs k = weightF k zs from if_pos HD.out]
        have h1 := weightF_bd (k : Int) (nb_bd HD.out)
        have h2 := psum_bd (nb_bd HD.out) k
        have h3 : 9 * (zs.length : Int) * (k : Int) ≤ 2160 := by
          have h4 : (k : Int) ≤ 6 := by omega
          have h5 : 9 * (zs.length : Int) ≤ 360 := by omega
          have := Int.mul_le_mul h5 h4 (by omega) (by omega)
          omega
        have HN : Hid (Value.int .i64 (psum zs k + weightF k zs) = .int .i64 (psum zs (k + 1))) := rfl
        generalize weightF (k : Int) zs = x at h1 HN
        generalize psum zs k = y at h2 HN
        go_wp2_with (fail)
        exact ⟨⟨k + 1, by omega, by go_num, HN.out, hB, ⟨ol, om, op⟩⟩, by simp [intOf]; omega⟩
      · obtain rfl : k = 6 := by omega
        rw [psum_all (fun x hx => ((notesB_bd HD.out).2 x hx).2.1)]
        have e6 : ((6 : Nat) : Int) = 6 := rfl
        rw [e6]
        clear e6
        obtain ⟨ol, om, op⟩ := HH.out
        clear HH
        obtain ⟨al, capl, rfl, hcl, hml, hal⟩ := ol.form
        go_wp2_with (fail)
        have HH := Lib.hid (And.intro ol (And.intro om op))
        clear ol om op
        go_loopw [8, 10] (fun s i wr => ∃ k : Nat, k ≤ zs.length ∧ i = .int .i64 k ∧ s = .int .i64 (tot (zs.take k)) ∧ Below w.heap.size w wr ∧ Hid (OwNote wr w.heap.size (.slice al zs.length capl) zs ∧ OwNote wr w.heap.size um (mergeR zs) ∧ OwI wr w.heap.size up (planF (sumsL zs) 12))) (fun _ i _ => zs.length - (intOf i).toNat)
        case atStart => exact ⟨0, Nat.zero_le _, rfl, by rw [List.take_zero]; rfl, hB, ⟨HH.out.1, HH.out.2.1, HH.out.2.2⟩⟩
        case round =>
         as_aux_lemma =>
          clear HH hB
          obtain ⟨k, hk, rfl, rfl, hB, HH⟩ := hrel
          by_cases hlt : k < zs.length
          · obtain ⟨ol, om, op⟩ := HH.out
            clear HH
            obtain ⟨g, rfl, hg, hgw⟩ := hal (by omega)
            obtain ⟨⟨x0, x1, x2⟩, hx⟩ : ∃ x, zs[k]? = some x := ⟨_, List.getElem?_eq_getElem hlt⟩
            have hgd : zs.getD k (0, 0, 0) = (x0, x1, x2) := by rw [List.getD_eq_getElem?_getD, hx]; rfl
            obtain ⟨hd0, hd1, hd2, _⟩ := ol.cell hlt
            rw [hgd] at hd0 hd1 hd2
            dsimp only at hd0 hd1 hd2
            have hxm := List.mem_of_getElem? hx
            have h1 := nb_bd HD.out _ hxm
            have h2 := tot_bd (fun x hx => nb_bd HD.out x (List.mem_of_mem_take hx) : ∀ x ∈ zs.take k, 1 ≤ x.2.2 ∧ x.2.2 ≤ 9)
            have hl2 : (zs.take k).length ≤ 40 := by rw [List.length_take]; omega
            have HPH := Lib.hid (plan_has HD.out hxm)
            have HN : Hid (Value.int .i64 (tot (zs.take k) + x2) = .int .i64 (tot (zs.take (k + 1)))) := by show _ = _; rw [take_get? hx, tot_snoc]
            simp only [] at h1
            generalize tot (zs.take k) = y at h2 HN
            clear hx hxm hgd
            go_wp2_with (fail)
            refine (has_any _ x0 _ _ op.rd).mono ?_
            rintro e w7 ⟨rfl, rfl⟩
            rw [HPH.out]
            go_wp2_with (fail)
            exact ⟨⟨k + 1, by omega, by go_num, HN.out, hB, ⟨ol, om, op⟩⟩, by simp [intOf]; omega⟩
          · obtain rfl : k = zs.length := by omega
            rw [List.take_length]
            obtain ⟨ol, om, op⟩ := HH.out
            clear HH
            obtain ⟨am, capm, rfl, hcm, hmm, ham⟩ := om.form
            obtain ⟨ap, capp, rfl, hcp, hmp, hap⟩ := op.form
            have HAP := Lib.hid (fun (i k : Nat) (a b : Nt) (ha : (mergeR zs)[i]? = some a) (hb : (mergeR zs)[k]? = some b) (hik : i < k) => merge_apart HD.out ha hb hik)
            have HML := Lib.hid (mergeR_length zs)
            have HMK := Lib.hid (merge_ok HD.out)
            have hM40 : (mergeR zs).length ≤ 40 := by have := mergeR_length zs; omega
            have HHL := Lib.hid hal
            have HFACT : Hid ((zs.length = 0 ∧ (mergeR zs).length = 0 ∧ (planF (sumsL zs) 12).length = 0 ∧ hardF zs = -1) ∨ (1 ≤ zs.length ∧ 1 ≤ (mergeR zs).length ∧ 1 ≤ (planF (sumsL zs) 12).length ∧ 0 ≤ hardF zs ∧ (planF (sumsL zs) 12).getD 0 0 = hardF zs ∧ betterB zs (zs.drop 1) = true ∧ betterB (zs.drop 1) zs = false ∧ (planR zs 9).length = 1)) := by
              have hD := HD.out
              cases zs with
              | nil =>
                left
                refine ⟨rfl, rfl, by rw [plan_nil]; rfl, rfl⟩
              | cons x r =>
                right
                have hne : (x :: r) ≠ [] := by simp
                have h1 := merge_ne hD
                have h2 := plan_ne hD hne
                refine ⟨by simp, by omega, by omega, ?_, plan_first hD hne, better_tail hD, better_tail' hD, plan_9 hD hne⟩
                rw [hardF, if_pos ⟨hD, by simp⟩]
                omega
            have HB4 := Lib.hid (And.intro (better_self zs) (congrArg List.length (plan_4 HD.out)))
            have HH := Lib.hid (And.intro ol (And.intro om op))
            clear ol om op hal
            generalize hMe : mergeR zs = M at HAP HML HMK HFACT HH hM40 hcm ham ⊢
            clear hMe
            go_wp2_with (fail)
            go_loopw [11] (fun i wr => ∃ k : Nat, k ≤ M.length ∧ i = .int .i64 k ∧ Below w.heap.size w wr ∧ Hid (OwNote wr w.heap.size (.slice al zs.length capl) zs ∧ OwNote wr w.heap.size (.slice am M.length capm) M ∧ OwI wr w.heap.size (.slice ap (planF (sumsL zs) 12).length capp) (planF (sumsL zs) 12))) (fun i _ => M.length - (intOf i).toNat)
            case atStart => exact ⟨0, Nat.zero_le _, rfl, hB, HH.out⟩
            case round =>
             as_aux_lemma =>
              clear HH hB
              obtain ⟨k, hk, rfl, hB, HH⟩ := hrel
              by_cases hlt : k < M.length
              · obtain ⟨gm, rfl, hgm, hgwm⟩ := ham (by omega)
                obtain ⟨wo, rfl⟩ : ∃ wo : World, wo = wr := ⟨_, rfl⟩
                go_wp2_with (fail)
                go_loopw [12] (fun i wr => ∃ j : Nat, j ≤ k ∧ i = .int .i64 j ∧ Dr wo wr) (fun i _ => k - (intOf i).toNat)
                case atStart => exact ⟨0, Nat.zero_le _, rfl, Dr.refl _⟩
                case round =>
                 as_aux_lemma =>
                  obtain ⟨j, hj, rfl, hD⟩ := hrel
                  by_cases hjk : j < k
                  · obtain ⟨⟨a0, a1, a2⟩, ha⟩ : ∃ a, M[j]? = some a := ⟨_, List.getElem?_eq_getElem (by omega)⟩
                    obtain ⟨⟨b0, b1, b2⟩, hb⟩ : ∃ b, M[k]? = some b := ⟨_, List.getElem?_eq_getElem hlt⟩
                    have hkey := HAP.out j k _ _ ha hb hjk
                    have hga : M.getD j (0, 0, 0) = (a0, a1, a2) := by rw [List.getD_eq_getElem?_getD, ha]; rfl
                    have hgb : M.getD k (0, 0, 0) = (b0, b1, b2) := by rw [List.getD_eq_getElem?_getD, hb]; rfl
                    obtain ⟨hc0, hc1, _, _⟩ := HH.out.2.1.cell (show j < M.length by omega)
                    obtain ⟨hd0, hd1, _, _⟩ := HH.out.2.1.cell hlt
                    rw [hga] at hc0 hc1
                    rw [hgb] at hd0 hd1
                    dsimp only at hc0 hc1 hd0 hd1
                    replace hc0 := hD.cell hc0
                    replace hc1 := hD.cell hc1
                    replace hd0 := hD.cell hd0
                    replace hd1 := hD.cell hd1
                    have q1 : (j : Int) < (M.length : Int) := by omega
                    have q2 : (k : Int) < (M.length : Int) := by omega
                    clear ha hb hga hgb
                    by_cases e0 : a0 = b0
                    · have e1 : a1 ≠ b1 := fun e => by rw [keyB_yes e0 e] at hkey; cases hkey
                      have e1b : (a1 == b1) = false := beq_eq_false_iff_ne.2 e1
                      clear hkey
                      subst e0
                      go_wp2
                      go_quiet (fail)
                      go_wp2
                      exact ⟨⟨j + 1, by omega, by go_num, hD.next _⟩, by simp [intOf]; omega⟩
                    · have e0b : (a0 == b0) = false := beq_eq_false_iff_ne.2 e0
                      clear hkey
                      go_wp2
                      go_quiet (fail)
                      go_wp2
                      exact ⟨⟨j + 1, by omega, by go_num, hD.next _⟩, by simp [intOf]; omega⟩
                  · obtain rfl : j = k := by omega
                    have HHd := Lib.hid (And.intro (HH.out.1.below hD.below) (And.intro (HH.out.2.1.below hD.below) (HH.out.2.2.below hD.below)))
                    go_wp2
                    exact ⟨⟨j + 1, by omega, by go_num, bvia hB hD.below, HHd⟩, by simp [intOf]; omega⟩
              · obtain rfl : k = M.length := by omega
                obtain ⟨ol, om, op⟩ := HH.out
                have HML2 := HML.out
                have hnl : ¬ (zs.length : Int) < (M.length : Int) := by omega
                have hpl12 := planF_length (sumsL zs) 12
                clear HH HAP HML2
                rcases HFACT.out with ⟨f1, f2, f3, f4⟩ | ⟨f1, f2, f3, f4, f5, f6, f7, f8⟩
                · have b1 : ((zs.length : Int) == 0) = true := by simp [f1]
                  have b2 : ((M.length : Int) == 0) = true := by simp [f2]
                  have b3 : (hardF zs == -1) = true := by simp [f4]
                  have b4 : ¬ (0 : Int) < ((planF (sumsL zs) 12).length : Int) := by omega
                  have b5 : ¬ (0 : Int) < (zs.length : Int) := by omega
                  clear f1 f2 f3 f4 HFACT
                  go_wp2_with (fail)
                  refine (implRehearsalPlan_any zs 9 _ _ ol.rd).mono ?_
                  rintro e w6 ⟨uq, rfl, oq, hb⟩
                  replace ol := ol.below hb
                  replace om := om.below hb
                  replace op := op.below hb
                  replace hB := bvia hB hb
                  clear hb
                  clear oq
                  go_wp2_with (fail)
                  refine (implNotesOk_any zs _ _ ol.rd).mono ?_
                  rintro e w7 ⟨rfl, hb⟩
                  replace ol := ol.below hb
                  replace om := om.below hb
                  replace op := op.below hb
                  replace hB := bvia hB hb
                  clear hb
                  rw [HD.out]
                  go_wp2_with (fail)
                  refine (implNotesOk_any M _ _ om.rd).mono ?_
                  rintro e w8 ⟨rfl, hb⟩
                  replace ol := ol.below hb
                  replace om := om.below hb
                  replace op := op.below hb
                  replace hB := bvia hB hb
                  clear hb
                  rw [HMK.out]
                  go_wp2_with (fail)
                  refine (implIsBetter_any zs zs _ _ _ ol.rd ol.rd).mono ?_
                  rintro e w9 ⟨rfl, hb⟩
                  replace ol := ol.below hb
                  replace om := om.below hb
                  replace op := op.below hb
                  replace hB := bvia hB hb
                  clear hb
                  rw [HB4.out.1]
                  go_wp2_with (fail)
                  refine (implRehearsalPlan_any zs 4 _ _ ol.rd).mono ?_
                  rintro e w10 ⟨u4, rfl, o4, hb⟩
                  replace ol := ol.below hb
                  replace om := om.below hb
                  replace op := op.below hb
                  replace hB := bvia hB hb
                  clear hb
                  obtain ⟨a4, cap4, rfl, _, _, _⟩ := o4.form
                  clear o4
                  rw [HB4.out.2]
                  go_wp2_with (fail)
                  go_returns
                  exact ⟨rfl, hB⟩
                · obtain ⟨gl, rfl, hgl, hgwl⟩ := HHL.out (by omega)
                  obtain ⟨gp, rfl, hgp, hgwp⟩ := hap (by omega)
                  have b1 : ((zs.length : Int) == 0) = false := beq_eq_false_iff_ne.2 (by omega)
                  have b2 : ((M.length : Int) == 0) = false := beq_eq_false_iff_ne.2 (by omega)
                  have b3 : (hardF zs == -1) = false := beq_eq_false_iff_ne.2 (by omega)
                  have b4 : (0 : Int) < ((planF (sumsL zs) 12).length : Int) := by omega
                  have b5 : (0 : Int) < (zs.length : Int) := by omega
                  have b6 : (((planF (sumsL zs) 12).length : Int) == 0) = false := beq_eq_false_iff_ne.2 (by omega)
                  have b7 : (1 : Int) ≤ (zs.length : Int) := by omega
                  have hc0 := (op.cell (k := 0) (by omega)).1
                  rw [f5] at hc0
                  have HF := Lib.hid (And.intro f6 (And.intro f7 f8))
                  have HF1 := Lib.hid f1
                  clear f1 f2 f3 f4 f5 f6 f7 f8 HFACT
                  go_wp2_with (fail)
                  refine (implRehearsalPlan_any zs 9 _ _ ol.rd).mono ?_
                  rintro e w6 ⟨uq, rfl, oq, hb⟩
                  replace ol := ol.below hb
                  replace om := om.below hb
                  replace op := op.below hb
                  replace hB := bvia hB hb
                  clear hb
                  obtain ⟨aq, capq, rfl, _, _, _⟩ := oq.form
                  clear oq
                  rw [HF.out.2.2]
                  by_cases hc1 : capl = 1
                  · subst hc1
                    have ht : RdNote w6 (.slice (some ⟨gl, 0, none⟩) 0 0) (zs.drop 1) := by
                      have := RdNote.tail ol.rd HF1.out
                      have e : zs.length - 1 = 0 := by omega
                      rw [if_pos rfl, e] at this
                      exact this
                    go_wp2_with (fail)
                    refine (implIsBetter_any zs (zs.drop 1) _ _ _ ol.rd ht).mono ?_
                    rintro e w7 ⟨rfl, hb⟩
                    replace ol := ol.below hb
                    replace om := om.below hb
                    replace op := op.below hb
                    replace ht := ht.below hb
                    replace hB := bvia hB hb
                    clear hb
                    rw [HF.out.1]
                    go_wp2_with (fail)
                    refine (implIsBetter_any (zs.drop 1) zs _ _ _ ht ol.rd).mono ?_
                    rintro e w8 ⟨rfl, hb⟩
                    replace ol := ol.below hb
                    replace om := om.below hb
                    replace op := op.below hb
                    replace ht := ht.below hb
                    replace hB := bvia hB hb
                    clear hb
                    rw [HF.out.2.1]
                    clear ht
                    go_wp2_with (fail)
                    refine (implNotesOk_any zs _ _ ol.rd).mono ?_
                    rintro e w9 ⟨rfl, hb⟩
                    replace ol := ol.below hb
                    replace om := om.below hb
                    replace op := op.below hb
                    replace hB := bvia hB hb
                    clear hb
                    rw [HD.out]
                    go_wp2_with (fail)
                    refine (implNotesOk_any M _ _ om.rd).mono ?_
                    rintro e w10 ⟨rfl, hb⟩
                    replace ol := ol.below hb
                    replace om := om.below hb
                    replace op := op.below hb
                    replace hB := bvia hB hb
                    clear hb
                    rw [HMK.out]
                    go_wp2_with (fail)
                    refine (implIsBetter_any zs zs _ _ _ ol.rd ol.rd).mono ?_
                    rintro e w11 ⟨rfl, hb⟩
                    replace ol := ol.below hb
                    replace om := om.below hb
                    replace op := op.below hb
                    replace hB := bvia hB hb
                    clear hb
                    rw [HB4.out.1]
                    go_wp2_with (fail)
                    refine (implRehearsalPlan_any zs 4 _ _ ol.rd).mono ?_
                    rintro e w12 ⟨u4, rfl, o4, hb⟩
                    replace ol := ol.below hb
                    replace om := om.below hb
                    replace op := op.below hb
                    replace hB := bvia hB hb
                    clear hb
                    obtain ⟨a4, cap4, rfl, _, _, _⟩ := o4.form
                    clear o4
                    rw [HB4.out.2]
                    go_wp2_with (fail)
                    go_returns
                    exact ⟨rfl, hB⟩
                  · have ht : RdNote w6 (.slice (some ⟨gl, 3, none⟩) (zs.length - 1) (capl - 1)) (zs.drop 1) := by
                      have := RdNote.tail ol.rd HF1.out
                      rw [if_neg hc1, Nat.zero_add] at this
                      exact this
                    go_wp2_with (fail)
                    refine (implIsBetter_any zs (zs.drop 1) _ _ _ ol.rd ht).mono ?_
                    rintro e w7 ⟨rfl, hb⟩
                    replace ol := ol.below hb
                    replace om := om.below hb
                    replace op := op.below hb
                    replace ht := ht.below hb
                    replace hB := bvia hB hb
                    clear hb
                    rw [HF.out.1]
                    go_wp2_with (fail)
                    refine (implIsBetter_any (zs.drop 1) zs _ _ _ ht ol.rd).mono ?_
                    rintro e w8 ⟨rfl, hb⟩
                    replace ol := ol.below hb
                    replace om := om.below hb
                    replace op := op.below hb
                    replace ht := ht.below hb
                    replace hB := bvia hB hb
                    clear hb
                    rw [HF.out.2.1]
                    clear ht
                    go_wp2_with (fail)
                    refine (implNotesOk_any zs _ _ ol.rd).mono ?_
                    rintro e w9 ⟨rfl, hb⟩
                    replace ol := ol.below hb
                    replace om := om.below hb
                    replace op := op.below hb
                    replace hB := bvia hB hb
                    clear hb
                    rw [HD.out]
                    go_wp2_with (fail)
                    refine (implNotesOk_any M _ _ om.rd).mono ?_
                    rintro e w10 ⟨rfl, hb⟩
                    replace ol := ol.below hb
                    replace om := om.below hb
                    replace op := op.below hb
                    replace hB := bvia hB hb
                    clear hb
                    rw [HMK.out]
                    go_wp2_with (fail)
                    refine (implIsBetter_any zs zs _ _ _ ol.rd ol.rd).mono ?_
                    rintro e w11 ⟨rfl, hb⟩
                    replace ol := ol.below hb
                    replace om := om.below hb
                    replace op := op.below hb
                    replace hB := bvia hB hb
                    clear hb
                    rw [HB4.out.1]
                    go_wp2_with (fail)
                    refine (implRehearsalPlan_any zs 4 _ _ ol.rd).mono ?_
                    rintro e w12 ⟨u4, rfl, o4, hb⟩
                    replace ol := ol.below hb
                    replace om := om.below hb
                    replace op := op.below hb
                    replace hB := bvia hB hb
                    clear hb
                    obtain ⟨a4, cap4, rfl, _, _, _⟩ := o4.form
                    clear o4
                    rw [HB4.out.2]
                    go_wp2_with (fail)
                    go_returns
                    exact ⟨rfl, hB⟩
  · have hbd : decide (1048576 < n) = true := decide_eq_true (by omega)
    go_enter Try.func9, Try.ntmps9
    go_wp2_with (fail)
    refine (big_any n _ _ _ hr).mono ?_
    rintro e w1 ⟨rfl, rfl⟩
    go_wp2_with (fail)
    go_returns
    exact ⟨rfl, Below.refl _ _⟩
end Go.Proofs.Ytcplfempajfcdaa
