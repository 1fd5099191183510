/- What breaks (plain law). -/
import Derived.Test.YtfedhjfijcnpdaaHangS
import Derived.Test.YtfedhjfijcnpdaaWoS
namespace Go.Proofs.Ytfedhjfijcnpdaa
open Tr
set_option linter.unusedVariables false
theorem pf_set {ps : List Int} {k : Nat} (hk : k < ps.length) (x : Int) : pf (ps.set k x) = upd (pf ps) k x := by
  funext v
  unfold pf
  rw [List.getD_eq_getElem?_getD, List.getElem?_set]
  by_cases e : v = k
  · subst e; rw [if_pos rfl, if_pos hk, upd_self]; rfl
  · rw [if_neg (fun h => e h.symm), upd_ne e, List.getD_eq_getElem?_getD]
theorem countP_set {p : Int → Bool} {x : Int} (hx : p x = false) : ∀ {ps : List Int} {k : Nat} {y : Int}, ps[k]? = some y → (ps.set k x).countP p + (if p y = true then 1 else 0) = ps.countP p := by
  intro ps
  induction ps with
  | nil => intro k y h; simp at h
  | cons a r ih =>
    intro k y h
    cases k with
    | zero =>
      simp at h
      subst h
      simp only [List.set_cons_zero, List.countP_cons, hx]
      simp
    | succ k =>
      have := ih (k := k) (by simpa using h)
      simp only [List.set_cons_succ, List.countP_cons]
      omega
theorem strN_set {ps : List Int} {k : Nat} (hk : k < ps.length) (h : 0 ≤ pf ps k) : strN (ps.set k (-1)) + 1 = strN ps := by
  have := countP_set (p := fun p => decide (0 ≤ p)) (x := -1) (by simp) (pf_at hk)
  rw [if_pos (by simpa using h)] at this
  exact this
theorem set_same {ps : List Int} {k : Nat} (hb : ∀ p ∈ ps, -1 ≤ p ∧ p ≤ 500) (hk : k < ps.length) (h : pf ps k < 0) : ps.set k (-1) = ps := by
  have h1 := pf_at hk
  have h2 := hb _ (List.mem_of_getElem? h1)
  have h3 : pf ps k = -1 := by omega
  rw [h3] at h1
  apply List.ext_getElem?
  intro j
  rw [List.getElem?_set]
  by_cases e : k = j
  · subst e; rw [if_pos rfl, if_pos hk, h1]
  · rw [if_neg e]
theorem pulls_set {J : Int} {zs : List LimbV} {ps : List Int} (h : pullsB J zs ps = true) {k : Nat} (hk : k < ps.length) (h0 : 0 ≤ pf ps k) : pullsB J zs (ps.set k (-1)) = decide (1 < strN ps) := by
  obtain ⟨h1, h2, h3, h4⟩ := pulls_open h
  have hs := strN_set hk h0
  have hm : ∀ p ∈ ps.set k (-1), -1 ≤ p ∧ p ≤ 500 := by
    intro p hp
    rcases List.mem_or_eq_of_mem_set hp with hp | rfl
    · exact h3 p hp
    · omega
  have hl : ((ps.set k (-1)).length : Int) = J := by rw [List.length_set]; exact h2
  by_cases h5 : 1 < strN ps
  · rw [decide_eq_true h5]
    exact pulls_ok h1 hl hm (by omega)
  · rw [decide_eq_false h5]
    exact pulls_no4 (by omega)
theorem hp_set_le {d : Nat → Nat → Int} {p : Nat → Int} {k j : Nat} : ∀ m, hp d (upd p k (-1)) m j ≤ hp d p m j
  | 0 => Int.le_refl _
  | m + 1 => by
    have ih := hp_set_le (d := d) (p := p) (k := k) (j := j) m
    unfold hp
    by_cases e : m = k
    · subst e
      rw [upd_self, if_pos (by omega)]
      split <;> omega
    · rw [upd_ne e]
      split <;> omega
theorem pose_len (N : Nat) (zs : List LimbV) (ps : List Int) : (poseL N zs ps).length = N := by rw [poseL_eq, rl_len]
theorem pose_at {N : Nat} {zs : List LimbV} {ps : List Int} {j : Nat} (h : j < N) (z : Int) : (poseL N zs ps).getD j z = hp (fill N (edges zs)) (pf ps) N j := by rw [poseL_eq, rl_getD _ h]
theorem pose_bd {N : Nat} {zs : List LimbV} {ps : List Int} (h : pullsB N zs ps = true) {j : Nat} (hj : j < N) : -2000 ≤ hp (fill N (edges zs)) (pf ps) N j ∧ hp (fill N (edges zs)) (pf ps) N j ≤ 500 := by
  obtain ⟨_, _, _, h3, _, h5, _⟩ := pulls_facts h
  exact hp_bd h5 (fun i _ => (pf_bd h3 i).2) hj N (Nat.le_refl _)
/-! HangsSame. -/
def hangsB (J : Int) (zs : List LimbV) (ps os : List Int) : Bool := pullsB J zs ps && (pullsB J zs os && decide (poseL J zs ps = poseL J zs os))
/-! FallOf. -/
def fallV (J : Int) (zs : List LimbV) (ps : List Int) (j : Int) : Int :=
  if pullsB J zs ps = true ∧ inB j 0 (J - 1) = true then (if pf ps j.toNat < 0 then 0 else if strN ps = 1 then -1 else (poseL J zs ps).getD j.toNat 0 - (poseL J zs (ps.set j.toNat (-1))).getD j.toNat 0) else -1
theorem fall_no1 {J : Int} {zs : List LimbV} {ps : List Int} {j : Int} (h : pullsB J zs ps = false) : fallV J zs ps j = -1 := if_neg (by simp [h])
theorem fall_no2 {J : Int} {zs : List LimbV} {ps : List Int} {j : Int} (h : inB j 0 (J - 1) = false) : fallV J zs ps j = -1 := if_neg (by simp [h])
section
variable {N : Nat} {zs : List LimbV} {ps : List Int} (h : pullsB N zs ps = true) {j : Nat} (hj : j < N)
include h hj
theorem fall_in : fallV N zs ps j = (if pf ps j < 0 then 0 else if strN ps = 1 then -1 else hp (fill N (edges zs)) (pf ps) N j - hp (fill N (edges zs)) (pf (ps.set j (-1))) N j) := by
  unfold fallV
  rw [if_pos ⟨h, inB_true.2 (by omega)⟩, Int.toNat_natCast, pose_at hj, pose_at hj]
theorem fall_zero (h0 : pf ps j < 0) : fallV N zs ps j = 0 := by rw [fall_in h hj, if_pos h0]
theorem fall_one (h0 : ¬ pf ps j < 0) (h1 : strN ps = 1) : fallV N zs ps j = -1 := by rw [fall_in h hj, if_neg h0, if_pos h1]
theorem fall_two (h0 : ¬ pf ps j < 0) (h1 : ¬ strN ps = 1) : fallV N zs ps j = hp (fill N (edges zs)) (pf ps) N j - hp (fill N (edges zs)) (pf (ps.set j (-1))) N j := by rw [fall_in h hj, if_neg h0, if_neg h1]
theorem fall_ge (h1 : strN ps ≠ 1) : 0 ≤ fallV N zs ps j := by
  have hl := (pulls_facts h).2.2.1
  by_cases h0 : pf ps j < 0
  · rw [fall_zero h hj h0]; exact Int.le_refl 0
  · rw [fall_two h hj h0 h1, pf_set (by omega)]
    have := hp_set_le (d := fill N (edges zs)) (p := pf ps) (k := j) (j := j) N
    omega
theorem fall_le : fallV N zs ps j ≤ 2500 := by
  have hl := (pulls_facts h).2.2.1
  by_cases h0 : pf ps j < 0
  · rw [fall_zero h hj h0]; omega
  · by_cases h1 : strN ps = 1
    · rw [fall_one h hj h0 h1]; omega
    · rw [fall_two h hj h0 h1]
      have := pose_bd h hj
      have h2 : pullsB N zs (ps.set j (-1)) = true := by
        have := (pulls_facts h).2.2.2.2.1
        rw [pulls_set h (by omega) (by omega), decide_eq_true_eq]
        omega
      have := pose_bd h2 hj
      omega
end
/-! IsNeeded. -/
def needB (J : Int) (zs : List LimbV) (ps : List Int) (j : Int) : Bool := pullsB J zs ps && (inB j 0 (J - 1) && (decide (0 ≤ pf ps j.toNat) && (decide (strN ps = 1) || decide (0 < fallV J zs ps j))))
theorem need_fall {J : Int} {zs : List LimbV} {ps : List Int} {j : Int} (h : 0 < fallV J zs ps j) : needB J zs ps j = true := by
  unfold needB
  rw [decide_eq_true h, Bool.or_true, Bool.and_true]
  unfold fallV at h
  split at h
  · rename_i h1
    rw [h1.1, h1.2]
    split at h
    · omega
    · rename_i h2
      rw [decide_eq_true (by omega)]
      rfl
  · omega
theorem need_no {J : Int} {zs : List LimbV} {ps : List Int} {j : Int} (h : ¬ 0 < fallV J zs ps j) : needB J zs ps j = (pullsB J zs ps && (inB j 0 (J - 1) && (decide (0 ≤ pf ps j.toNat) && decide (strN ps = 1)))) := by
  unfold needB
  rw [decide_eq_false h, Bool.or_false]
/-! WorstString. -/
def worstK (J : Int) (zs : List LimbV) (ps : List Int) : Nat → Int
  | 0 => -1
  | k + 1 => if 0 ≤ pf ps k ∧ (worstK J zs ps k < 0 ∨ fallV J zs ps (worstK J zs ps k) < fallV J zs ps k) then k else worstK J zs ps k
def mostK (J : Int) (zs : List LimbV) (ps : List Int) (k : Nat) : Int := if worstK J zs ps k < 0 then -1 else fallV J zs ps (worstK J zs ps k)
def worstV (J : Int) (zs : List LimbV) (ps : List Int) : Int := if pullsB J zs ps = true ∧ strN ps ≠ 1 then worstK J zs ps J.toNat else -1
theorem worst_bd (J : Int) (zs : List LimbV) (ps : List Int) : ∀ k, -1 ≤ worstK J zs ps k ∧ worstK J zs ps k < k
  | 0 => by simp [worstK]
  | k + 1 => by
    have := worst_bd J zs ps k
    unfold worstK
    split <;> omega
theorem worst_hit {J : Int} {zs : List LimbV} {ps : List Int} {k : Nat} (h : 0 ≤ pf ps k) (h2 : worstK J zs ps k < 0 ∨ fallV J zs ps (worstK J zs ps k) < fallV J zs ps k) : worstK J zs ps (k + 1) = k := by rw [worstK, if_pos ⟨h, h2⟩]
theorem worst_miss {J : Int} {zs : List LimbV} {ps : List Int} {k : Nat} (h : ¬ (0 ≤ pf ps k ∧ (worstK J zs ps k < 0 ∨ fallV J zs ps (worstK J zs ps k) < fallV J zs ps k))) : worstK J zs ps (k + 1) = worstK J zs ps k := by rw [worstK, if_neg h]
theorem most_hit {J : Int} {zs : List LimbV} {ps : List Int} {k : Nat} (h : worstK J zs ps (k + 1) = k) : mostK J zs ps (k + 1) = fallV J zs ps k := by
  unfold mostK
  rw [h, if_neg (by omega)]
theorem most_iff {J : Int} {zs : List LimbV} {ps : List Int} {k : Nat} (h : 0 ≤ fallV J zs ps k) : mostK J zs ps k < fallV J zs ps k ↔ (worstK J zs ps k < 0 ∨ fallV J zs ps (worstK J zs ps k) < fallV J zs ps k) := by
  unfold mostK
  split
  · rename_i h1
    exact ⟨fun _ => .inl h1, fun _ => by omega⟩
  · rename_i h1
    exact ⟨fun h => .inr h, fun h => by rcases h with h | h; exact absurd h h1; exact h⟩
/-! FewestStrings. -/
def nowK (J : Int) (zs : List LimbV) (ps : List Int) : Nat → List Int
  | 0 => ps
  | k + 1 => if 0 ≤ pf (nowK J zs ps k) k ∧ hangsB J zs (nowK J zs ps k) ((nowK J zs ps k).set k (-1)) = true then (nowK J zs ps k).set k (-1) else nowK J zs ps k
def idxL (ps : List Int) (k : Nat) : List Int := ((List.range k).filter fun j => decide (0 ≤ pf ps j)).map fun j : Nat => (j : Int)
def fewL (J : Int) (zs : List LimbV) (ps : List Int) : List Int := if pullsB J zs ps = true then idxL (nowK J zs ps J.toNat) J.toNat else []
theorem idx_hit {ps : List Int} {k : Nat} (h : 0 ≤ pf ps k) : idxL ps (k + 1) = idxL ps k ++ [(k : Int)] := by simp [idxL, List.range_succ, h]
theorem idx_miss {ps : List Int} {k : Nat} (h : pf ps k < 0) : idxL ps (k + 1) = idxL ps k := by
  have : ¬ 0 ≤ pf ps k := by omega
  simp [idxL, List.range_succ, this]
theorem idx_len (ps : List Int) (k : Nat) : (idxL ps k).length ≤ k := by
  unfold idxL
  rw [List.length_map]
  have := List.length_filter_le (fun j => decide (0 ≤ pf ps j)) (List.range k)
  rw [List.length_range] at this
  exact this
theorem now_hit {J : Int} {zs : List LimbV} {ps : List Int} {k : Nat} (h : 0 ≤ pf (nowK J zs ps k) k) (h2 : hangsB J zs (nowK J zs ps k) ((nowK J zs ps k).set k (-1)) = true) : nowK J zs ps (k + 1) = (nowK J zs ps k).set k (-1) := by rw [nowK, if_pos ⟨h, h2⟩]
theorem now_miss {J : Int} {zs : List LimbV} {ps : List Int} {k : Nat} (h : ¬ (0 ≤ pf (nowK J zs ps k) k ∧ hangsB J zs (nowK J zs ps k) ((nowK J zs ps k).set k (-1)) = true)) : nowK J zs ps (k + 1) = nowK J zs ps k := by rw [nowK, if_neg h]
theorem now_ok {J : Int} {zs : List LimbV} {ps : List Int} (h : pullsB J zs ps = true) : ∀ k, pullsB J zs (nowK J zs ps k) = true ∧ poseL J zs (nowK J zs ps k) = poseL J zs ps
  | 0 => ⟨h, rfl⟩
  | k + 1 => by
    have ih := now_ok h k
    rw [nowK]
    split
    · rename_i h1
      have h2 := h1.2
      unfold hangsB at h2
      simp only [Bool.and_eq_true, decide_eq_true_eq] at h2
      exact ⟨h2.2.1, by rw [← h2.2.2]; exact ih.2⟩
    · exact ih
/-- The program's test is the reference's. -/
theorem few_test {J : Int} {zs : List LimbV} {ps own : List Int} (h : pullsB J zs own = true) (he : poseL J zs own = poseL J zs ps) {k : Nat} (hk : k < own.length) (h0 : 0 ≤ pf own k) :
    hangsB J zs own (own.set k (-1)) = (decide (1 < cntI own) && decide (poseL J zs (own.set k (-1)) = poseL J zs ps)) := by
  unfold hangsB
  rw [h, Bool.true_and, pulls_set h hk h0, cntI_strN (pulls_open h).2.2.1, he]
  have : (poseL J zs ps = poseL J zs (own.set k (-1))) = (poseL J zs (own.set k (-1)) = poseL J zs ps) := propext ⟨Eq.symm, Eq.symm⟩
  simp only [this]
end Go.Proofs.Ytfedhjfijcnpdaa
