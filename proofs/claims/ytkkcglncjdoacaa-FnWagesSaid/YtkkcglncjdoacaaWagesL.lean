/- The plain law of FnWages: shares make the sum, and who works more never gets less. -/
import Derived.Test.YtkkcglncjdoacaaWorkI
namespace Go.Proofs.Ytkkcglncjdoacaa
open Go.ChangeShapes Go.WideShapes Go.ChangeAt Go.RowKit Go.Joins
set_option linter.unusedSimpArgs false
set_option linter.unusedVariables false

theorem bestFrom_max (R : List Int) : ∀ (m k b : Nat), k + m = R.length → (∀ j, j < k → R.getD j 0 ≤ R.getD b 0) → (b < k ∨ k = 0 ∧ b = 0) → ∀ j, j < R.length → R.getD j 0 ≤ R.getD (bestFrom R k b m) 0 := by
  intro m
  induction m with
  | zero => intro k b hk h _ j hj; exact h j (by omega)
  | succ m ih =>
    intro k b hk h hb j hj
    rw [bestFrom_step]
    refine ih (k + 1) _ (by omega) (fun i hi => ?_) ?_ j hj
    · split
      · rename_i hlt
        by_cases hik : i < k
        · have := h i hik; omega
        · obtain rfl : i = k := by omega
          exact Int.le_refl _
      · rename_i hlt
        by_cases hik : i < k
        · exact h i hik
        · obtain rfl : i = k := by omega
          omega
    · left
      split <;> omega
theorem bestF_max (R : List Int) : ∀ j, j < R.length → R.getD j 0 ≤ R.getD (bestF R) 0 := fun j hj => bestFrom_max R R.length 0 0 (by omega) (by omega) (.inr ⟨rfl, rfl⟩) j hj
theorem getDI_set {zs : List Int} {k : Nat} (hk : k < zs.length) (x : Int) (j : Nat) : (zs.set k x).getD j 0 = if j = k then x else zs.getD j 0 := by
  rw [List.getD_eq_getElem?_getD, List.getElem?_set]
  by_cases h : k = j
  · subst h; simp [hk]
  · rw [if_neg h, if_neg (fun e => h e.symm), List.getD_eq_getElem?_getD]
theorem sumI_set (zs : List Int) : ∀ (k : Nat) (x : Int), k < zs.length → sumI (zs.set k x) = sumI zs - zs.getD k 0 + x := by
  induction zs with
  | nil => intro k x h; simp at h
  | cons y r ih =>
    intro k x h
    cases k with
    | zero => simp [sumI_cons]; omega
    | succ k =>
      have := ih k x (by simpa using h)
      simp only [List.set_cons_succ, sumI_cons, List.getD_cons_succ, this]
      omega
theorem sumI_ext (A B : List Int) (c : Int) : A.length = B.length → (∀ j, j < A.length → A.getD j 0 = B.getD j 0 + c) → sumI A = sumI B + c * A.length := by
  induction A generalizing B with
  | nil => intro h _; cases B with | nil => simp [sumI] | cons => simp at h
  | cons x r ih =>
    intro h hj
    cases B with
    | nil => simp at h
    | cons y s =>
      have h0 := hj 0 (by simp)
      have := ih s (by simpa using h) (fun j hjl => by have := hj (j + 1) (by simpa using hjl); simpa using this)
      simp at h0
      rw [sumI_cons, sumI_cons, List.length_cons, this, h0]
      have e : c * ((r.length + 1 : Nat) : Int) = c * r.length + c := by rw [Int.natCast_add, Int.mul_add]; simp
      omega
/-- What has been given away to whom (g). -/
def Given (q r : List Int) (A R : List Int) (g : Nat → Bool) : Prop :=
  A.length = q.length ∧ R.length = q.length ∧ (∀ j, j < q.length → A.getD j 0 = q.getD j 0 + (if g j = true then 1 else 0) ∧ R.getD j 0 = if g j = true then -1 else r.getD j 0) ∧
    ∀ i j, i < q.length → j < q.length → g i = true → g j = false → r.getD j 0 ≤ r.getD i 0
theorem give_main (q r : List Int) (hr : ∀ j, j < q.length → 0 ≤ r.getD j 0) : ∀ (n : Nat) (A R : List Int) (g : Nat → Bool), Given q r A R g → sumI A + n ≤ sumI q + q.length →
    ∃ R' g', Given q r (giveF n A R) R' g' ∧ sumI (giveF n A R) = sumI A + n := by
  intro n
  induction n with
  | zero => intro A R g h _; exact ⟨R, g, h, by simp [giveF]⟩
  | succ n ih =>
    intro A R g h hs
    obtain ⟨hA, hR, hg, hm⟩ := h
    -- one that has not got any
    have hex : ∃ j, j < q.length ∧ g j = false := by
      rcases Classical.em (∃ j, j < q.length ∧ g j = false) with h | h
      · exact h
      · exfalso
        have hall : ∀ j, j < q.length → g j = true := fun j hj => by
          cases hgj : g j with
          | true => rfl
          | false => exact absurd ⟨j, hj, hgj⟩ h
        have := sumI_ext A q 1 hA (fun j hj => by rw [(hg j (by omega)).1, hall j (by omega)]; rfl)
        omega
    obtain ⟨j0, hj0, hgj0⟩ := hex
    have hbl : bestF R < R.length := bestF_lt (by omega)
    have hbm := bestF_max R
    have hgb : g (bestF R) = false := by
      cases hgb : g (bestF R) with
      | false => rfl
      | true =>
        exfalso
        have h1 := hbm j0 (by omega)
        have h2 := (hg (bestF R) (by omega)).2
        have h3 := (hg j0 hj0).2
        have h4 := hr j0 hj0
        rw [hgb, if_pos rfl] at h2
        rw [hgj0, if_neg Bool.false_ne_true] at h3
        omega
    have hstep : Given q r (A.set (bestF R) (A.getD (bestF R) 0 + 1)) (R.set (bestF R) (-1)) (fun j => if j = bestF R then true else g j) := by
      refine ⟨by simpa using hA, by simpa using hR, fun j hj => ?_, fun i j hi hj hgi hgj => ?_⟩
      · rw [getDI_set (by omega), getDI_set hbl]
        have h5 := hg j hj
        dsimp only
        by_cases hjb : j = bestF R
        · subst hjb
          rw [hgb, if_neg Bool.false_ne_true, if_neg Bool.false_ne_true] at h5
          refine ⟨?_, ?_⟩
          · simp only [if_true]
            omega
          · simp
        · simp only [hjb, if_false]
          exact h5
      · dsimp only at hgi hgj
        by_cases hjb : j = bestF R
        · rw [if_pos hjb] at hgj; simp at hgj
        · rw [if_neg hjb] at hgj
          by_cases hib : i = bestF R
          · subst hib
            have h1 := hbm j (by omega)
            have h2 := (hg (bestF R) (by omega)).2
            have h3 := (hg j hj).2
            rw [hgb, if_neg Bool.false_ne_true] at h2
            rw [hgj, if_neg Bool.false_ne_true] at h3
            omega
          · rw [if_neg hib] at hgi
            exact hm i j hi hj hgi hgj
    have hsum := sumI_set A (bestF R) (A.getD (bestF R) 0 + 1) (by omega)
    have := ih _ _ _ hstep (by rw [hsum]; omega)
    obtain ⟨R', g', h1, h2⟩ := this
    exact ⟨R', g', h1, by rw [giveF, h2, hsum]; omega⟩
theorem quo_rem_sum (s t : Int) (ht : t ≠ 0) (zs : List Int) : t * sumI (zs.map (quoAt s t)) + sumI (zs.map (remAt s t)) = s * sumI zs := by
  induction zs with
  | nil => simp [sumI]
  | cons x r ih =>
    simp only [List.map_cons, sumI_cons, quoAt, remAt, Int.mul_add]
    have := Int.mul_ediv_add_emod (s * x) t
    omega
section
variable {s : Int} {zs : List Int} (h : workB s zs = true)
include h
theorem work_facts : (0 ≤ s ∧ s ≤ 1000000) ∧ (1 ≤ zs.length ∧ zs.length ≤ 20) ∧ (∀ z ∈ zs, 0 ≤ z ∧ z ≤ 1000) ∧ 0 < sumI zs := by
  obtain ⟨h1, h2, h3, h4⟩ := workB_iff.1 h
  have h5 := inB_true.1 h2
  have h6 := (sumI_bd (m := 1000) (allB_mem h3)).1
  exact ⟨inB_true.1 h1, by omega, allB_mem h3, by omega⟩
theorem shares_main : (shareByWork s zs).length = zs.length ∧ sumI (shareByWork s zs) = s ∧
    (∀ i k, i < zs.length → k < zs.length → zs.getD k 0 < zs.getD i 0 → (shareByWork s zs).getD k 0 ≤ (shareByWork s zs).getD i 0) ∧
    (∀ k, k < zs.length → 0 ≤ (shareByWork s zs).getD k 0 ∧ (shareByWork s zs).getD k 0 ≤ 1000000001 ∧ (shareByWork s zs).getD k 0 * sumI zs ≤ s * zs.getD k 0 + sumI zs ∧ s * zs.getD k 0 - sumI zs ≤ (shareByWork s zs).getD k 0 * sumI zs) := by
  obtain ⟨hs, hl, hm, ht⟩ := work_facts h
  have hv : shareByWork s zs = giveF (leftAt s (sumI zs) zs).toNat (zs.map (quoAt s (sumI zs))) (zs.map (remAt s (sumI zs))) := if_pos h
  have hqr := quo_rem_sum s (sumI zs) (by omega) zs
  generalize sumI zs = t at *
  have hlen : (zs.map (quoAt s t)).length = zs.length := by simp
  have hqd : ∀ j, j < zs.length → (zs.map (quoAt s t)).getD j 0 = s * zs.getD j 0 / t := fun j hj => by simp [quoAt, hj]
  have hrd : ∀ j, j < zs.length → (zs.map (remAt s t)).getD j 0 = s * zs.getD j 0 % t := fun j hj => by simp [remAt, hj]
  have hr0 : ∀ j, j < (zs.map (quoAt s t)).length → 0 ≤ (zs.map (remAt s t)).getD j 0 := fun j hj => by rw [hrd j (by omega)]; exact Int.emod_nonneg _ (by omega)
  have hrs := sumI_bd (zs := zs.map (remAt s t)) (m := t - 1) (fun z hz => by
    obtain ⟨x, _, rfl⟩ := List.mem_map.1 hz
    have h1 := Int.emod_nonneg (s * x) (show t ≠ 0 by omega)
    have h2 := Int.emod_lt_of_pos (s * x) ht
    simp only [remAt]
    omega)
  rw [List.length_map] at hrs
  -- what is left
  have hleft : t * (s - sumI (zs.map (quoAt s t))) = sumI (zs.map (remAt s t)) := by rw [Int.mul_sub, Int.mul_comm t s]; omega
  have hL0 : 0 ≤ s - sumI (zs.map (quoAt s t)) := by
    by_cases hn : s - sumI (zs.map (quoAt s t)) < 0
    · have := Int.mul_lt_mul_of_pos_left hn ht
      simp at this
      omega
    · omega
  have hL1 : s - sumI (zs.map (quoAt s t)) ≤ zs.length := by
    by_cases hn : (zs.length : Int) < s - sumI (zs.map (quoAt s t))
    · have h1 := Int.mul_lt_mul_of_pos_left hn ht
      have h2 : (t - 1) * (zs.length : Int) = t * zs.length - zs.length := by rw [Int.sub_mul]; omega
      omega
    · omega
  have hgiv : Given (zs.map (quoAt s t)) (zs.map (remAt s t)) (zs.map (quoAt s t)) (zs.map (remAt s t)) (fun _ => false) := ⟨rfl, by simp, fun j hj => by simp, fun i j _ _ hi _ => by simp at hi⟩
  have hn : ((leftAt s t zs).toNat : Int) = s - sumI (zs.map (quoAt s t)) := by simp only [leftAt]; omega
  obtain ⟨R', g, ⟨hA, _, hg, hmx⟩, hsum⟩ := give_main _ _ hr0 (leftAt s t zs).toNat _ _ _ hgiv (by rw [hlen]; omega)
  rw [← hv] at hA hg hsum
  rw [hlen] at hA hg hmx
  refine ⟨hA, by omega, fun i k hi hk hw => ?_, fun k hk => ?_⟩
  · have h1 := (hg i hi).1
    have h2 := (hg k hk).1
    rw [hqd i hi] at h1
    rw [hqd k hk] at h2
    have hsz : s * zs.getD k 0 ≤ s * zs.getD i 0 := Int.mul_le_mul_of_nonneg_left (by omega) hs.1
    have hq : s * zs.getD k 0 / t ≤ s * zs.getD i 0 / t := Int.ediv_le_ediv ht hsz
    by_cases hqe : s * zs.getD k 0 / t = s * zs.getD i 0 / t
    · cases hgk : g k with
      | false =>
        rw [hgk, if_neg Bool.false_ne_true] at h2
        split at h1 <;> omega
      | true =>
        cases hgi : g i with
        | true => rw [hgk, if_pos rfl] at h2; rw [hgi, if_pos rfl] at h1; omega
        | false =>
          have h3 := hmx k i hk hi hgk hgi
          rw [hrd i hi, hrd k hk] at h3
          have e1 := Int.mul_ediv_add_emod (s * zs.getD k 0) t
          have e2 := Int.mul_ediv_add_emod (s * zs.getD i 0) t
          rw [hqe] at e1
          have hse : s * zs.getD k 0 = s * zs.getD i 0 := by omega
          have hs0 : s = 0 := by
            by_cases hp : 0 < s
            · have := Int.mul_lt_mul_of_pos_left hw hp; omega
            · omega
          exfalso
          subst hs0
          -- nothing is left, so nobody got any
          have hz : ∀ j, j < zs.length → (shareByWork 0 zs).getD j 0 = (zs.map (quoAt 0 t)).getD j 0 + (if g j = true then 1 else 0) := fun j hj => (hg j hj).1
          have hqz : zs.map (remAt 0 t) = zs.map (fun _ => 0) := List.map_congr_left fun x _ => by simp [remAt]
          have hq0 : zs.map (quoAt 0 t) = zs.map (fun _ => 0) := List.map_congr_left fun x _ => by simp [quoAt]
          have hzero : leftAt 0 t zs = 0 := by
            have : ∀ l : List Int, sumI (l.map fun _ => (0 : Int)) = 0 := by
              intro l
              induction l with
              | nil => rfl
              | cons x r ih => rw [List.map_cons, sumI_cons, ih]; rfl
            rw [leftAt, hq0, this]
            rfl
          rw [hzero] at hv
          have hkk := hz k hk
          rw [hv, hgk, if_pos rfl] at hkk
          rw [show (0 : Int).toNat = 0 from rfl, giveF] at hkk
          omega
    · split at h1 <;> split at h2 <;> omega
  · have h2 := (hg k hk).1
    rw [hqd k hk] at h2
    have hzm := hm (zs.getD k 0) (by rw [getD_lt hk]; exact List.getElem_mem hk)
    have hqb := quo_bds hs hzm ht
    have e1 := Int.mul_ediv_add_emod (s * zs.getD k 0) t
    have e2 := Int.emod_lt_of_pos (s * zs.getD k 0) ht
    generalize s * zs.getD k 0 / t = q at *
    generalize s * zs.getD k 0 = p at *
    have hc := Int.mul_comm t q
    have hd : (q + 1) * t = q * t + t := by rw [Int.add_mul]; omega
    split at h2
    · rw [h2, hd]; omega
    · rw [h2, Int.add_zero]; omega
end
end Go.Proofs.Ytkkcglncjdoacaa
