/- What breaks: the plain law of FnBreaks. -/
import Derived.Test.YtfedhjfijcnpdaaBreakP
namespace Go.Proofs.Ytfedhjfijcnpdaa
open Tr
set_option linter.unusedVariables false
set_option linter.unusedSectionVars false
/-! A way is no longer by a joint on it. -/
theorem Tr.Tree.tri {N : Nat} {E : List TEdge} {d : Nat → Nat → Int} (h : Tree N E d) {x y : Nat} (hx : x < N) (hy : y < N) : ∀ (c v : Nat), v < N → d y v < (c : Int) → d x v ≤ d x y + d y v
  | 0, v, hv, hc => by have := (h.le y v hy hv).1; omega
  | c + 1, v, hv, hc => by
    by_cases e : y = v
    · subst e; rw [h.self]; omega
    · obtain ⟨u, L, hA, he⟩ := h.par y v hy hv e
      have hL : 1 ≤ L := by
        rcases hA with hA | hA
        · exact (h.ok _ hA).2.2.1
        · exact (h.ok _ hA).2.2.1
      have hu : u < N := (hA.rng fun e he => ⟨(h.ok e he).1, (h.ok e he).2.1⟩).2
      have ih := Tr.Tree.tri h hx hy c u hu (by omega)
      rcases h.orient x v u L hx hA with ho | ho <;> omega
theorem tri_of {N : Nat} {zs : List LimbV} {ps : List Int} (h : pullsB N zs ps = true) {x y v : Nat} (hx : x < N) (hy : y < N) (hv : v < N) :
    fill N (edges zs) x v ≤ fill N (edges zs) x y + fill N (edges zs) y v ∧ fill N (edges zs) x x = 0 := by
  obtain ⟨M, hM, h1, h2, d, ht⟩ := body_tree (pulls_open h).1
  obtain rfl : N = M := by omega
  rw [ht.fill x v hx hv, ht.fill x y hx hy, ht.fill y v hy hv, ht.fill x x hx hx]
  exact ⟨ht.tri hx hy (d y v).toNat.succ v hv (by have := (ht.le y v hy hv).1; omega), ht.self x⟩
/-! Poses string by string. -/
theorem hp_ge {d : Nat → Nat → Int} {p : Nat → Int} {k j : Nat} (h : 0 ≤ p k) : ∀ m, k < m → p k - d k j ≤ hp d p m j
  | 0, hk => absurd hk (Nat.not_lt_zero _)
  | m + 1, hk => by
    unfold hp
    by_cases e : k = m
    · subst e; rw [if_neg (by omega)]; omega
    · have := hp_ge (d := d) (j := j) h m (by omega)
      split <;> omega
theorem hp_is {d : Nat → Nat → Int} {p : Nat → Int} {j : Nat} : ∀ m, hp d p m j = -2000 ∨ ∃ k, k < m ∧ 0 ≤ p k ∧ hp d p m j = p k - d k j
  | 0 => .inl rfl
  | m + 1 => by
    have key : hp d p (m + 1) j = hp d p m j ∨ (0 ≤ p m ∧ hp d p (m + 1) j = p m - d m j) := by
      rw [hp]
      split
      · exact .inl rfl
      · rename_i h0
        rcases Int.le_total (hp d p m j) (p m - d m j) with h1 | h1
        · right; exact ⟨by omega, by omega⟩
        · left; omega
    rcases key with h | h
    · rw [h]
      rcases hp_is (d := d) (p := p) (j := j) m with h2 | ⟨k, hk, h3⟩
      · exact .inl h2
      · exact .inr ⟨k, by omega, h3⟩
    · exact .inr ⟨m, by omega, h⟩
theorem hp_mono {d : Nat → Nat → Int} {p q : Nat → Int} {j : Nat} (h : ∀ v, q v = p v ∨ q v < 0) : ∀ m, hp d q m j ≤ hp d p m j
  | 0 => Int.le_refl _
  | m + 1 => by
    have ih := hp_mono (d := d) (j := j) h m
    unfold hp
    rcases h m with e | e
    · rw [e]; split <;> omega
    · rw [if_pos e]; split <;> omega
theorem hp_low {d : Nat → Nat → Int} {p : Nat → Int} {j : Nat} : ∀ m, -2000 ≤ hp d p m j
  | 0 => Int.le_refl _
  | m + 1 => by
    have ih := hp_low (d := d) (p := p) (j := j) m
    unfold hp
    split <;> omega
/-- A joint that does not fall without its own string keeps all others. -/
theorem hp_hold {d : Nat → Nat → Int} {p : Nat → Int} {N k : Nat} (hd : ∀ x y v, x < N → y < N → v < N → d x v ≤ d x y + d y v) (hs : d k k = 0) (hk : k < N) (h0 : 0 ≤ p k) (he : hp d p N k ≤ hp d (upd p k (-1)) N k) {j : Nat} (hj : j < N) : hp d (upd p k (-1)) N j = hp d p N j := by
  have h1 := hp_set_le (d := d) (p := p) (k := k) (j := j) N
  rcases hp_is (d := d) (p := p) (j := j) N with h2 | ⟨m, hm, h3, h4⟩
  · have := hp_low (d := d) (p := upd p k (-1)) (j := j) N
    omega
  · by_cases e : m = k
    · subst e
      have h5 := hp_ge (d := d) (j := m) h3 N hm
      rw [hs] at h5
      rcases hp_is (d := d) (p := upd p m (-1)) (j := m) N with h6 | ⟨l, hl, h7, h8⟩
      · omega
      · have h9 := hp_ge (d := d) (p := upd p m (-1)) (j := j) h7 N hl
        have := hd l m j hl hm hj
        omega
    · have h9 := hp_ge (d := d) (p := upd p k (-1)) (k := m) (j := j) (by rw [upd_ne e]; exact h3) N hm
      rw [upd_ne e] at h9
      omega
/-! One string broken. -/
section
variable {N : Nat} {zs : List LimbV} {ps : List Int} (h : pullsB N zs ps = true) (h1 : 1 < strN ps) {j : Nat} (hj : j < N)
include h h1 hj
theorem set_pulls : pullsB N zs (ps.set j (-1)) = true := by
  have hl := (pulls_facts h).2.2.1
  by_cases h0 : pf ps j < 0
  · rw [set_same (pulls_open h).2.2.1 (by omega) h0]; exact h
  · rw [pulls_set h (by omega) (by omega), decide_eq_true h1]
theorem fall_diff : fallV N zs ps j = hp (fill N (edges zs)) (pf ps) N j - hp (fill N (edges zs)) (pf (ps.set j (-1))) N j := by
  have hl := (pulls_facts h).2.2.1
  by_cases h0 : pf ps j < 0
  · rw [fall_zero h hj h0, set_same (pulls_open h).2.2.1 (by omega) h0]; omega
  · exact fall_two h hj h0 (by omega)
theorem set_le (i : Nat) : hp (fill N (edges zs)) (pf (ps.set j (-1))) N i ≤ hp (fill N (edges zs)) (pf ps) N i := by
  have hl := (pulls_facts h).2.2.1
  rw [pf_set (by omega)]
  exact hp_set_le N
theorem same_fall : hangsB N zs ps (ps.set j (-1)) = decide (fallV N zs ps j = 0) := by
  have hl := (pulls_facts h).2.2.1
  unfold hangsB
  rw [h, set_pulls h h1 hj, Bool.true_and, Bool.true_and, decide_eq_decide]
  rw [fall_diff h h1 hj]
  constructor
  · intro e
    rw [poseL_eq, poseL_eq] at e
    rw [rl_inj e hj]; omega
  · intro e
    by_cases h0 : pf ps j < 0
    · rw [set_same (pulls_open h).2.2.1 (by omega) h0]
    · rw [poseL_eq, poseL_eq]
      refine rl_congr fun v hv => ?_
      rw [pf_set (by omega)] at e ⊢
      exact (hp_hold (fun x y v hx hy hv => (tri_of h hx hy hv).1) (tri_of h hj hj hj).2 hj (by omega) (by omega) hv).symm
theorem need_fallB : needB N zs ps j = decide (0 < fallV N zs ps j) := by
  by_cases e : 0 < fallV N zs ps j
  · rw [need_fall e, decide_eq_true e]
  · rw [need_no e, decide_eq_false e, decide_eq_false (show ¬ strN ps = 1 by omega)]
    simp
end
/-! The strings that are kept. -/
theorem now_lenL (J : Int) (zs : List LimbV) (ps : List Int) : ∀ k, (nowK J zs ps k).length = ps.length
  | 0 => rfl
  | k + 1 => by
    have ih := now_lenL J zs ps k
    rw [nowK]
    split
    · rw [List.length_set]; exact ih
    · exact ih
theorem now_step (J : Int) (zs : List LimbV) (ps : List Int) (k v : Nat) : pf (nowK J zs ps (k + 1)) v = pf (nowK J zs ps k) v ∨ (v = k ∧ pf (nowK J zs ps (k + 1)) v = -1) := by
  rw [nowK]
  split
  · by_cases hk : k < (nowK J zs ps k).length
    · rw [pf_set hk]
      by_cases e : v = k
      · subst e; rw [upd_self]; exact .inr ⟨rfl, rfl⟩
      · rw [upd_ne e]; exact .inl rfl
    · rw [List.set_eq_of_length_le (by omega)]; exact .inl rfl
  · exact .inl rfl
/-- What stands later stood before. -/
theorem now_sub (J : Int) (zs : List LimbV) (ps : List Int) (k v : Nat) : ∀ m, pf (nowK J zs ps (k + m)) v = pf (nowK J zs ps k) v ∨ pf (nowK J zs ps (k + m)) v = -1
  | 0 => .inl rfl
  | m + 1 => by
    have ih := now_sub J zs ps k v m
    rcases now_step J zs ps (k + m) v with e | e
    · rw [show k + (m + 1) = k + m + 1 from rfl, e]; exact ih
    · exact .inr e.2
theorem strN_set_le (ps : List Int) (k : Nat) : strN (ps.set k (-1)) ≤ strN ps := by
  by_cases hk : k < ps.length
  · have := countP_set (p := fun p => decide (0 ≤ p)) (x := -1) (by simp) (pf_at hk)
    show (ps.set k (-1)).countP (fun p => decide (0 ≤ p)) ≤ ps.countP fun p => decide (0 ≤ p)
    omega
  · rw [List.set_eq_of_length_le (by omega)]; exact Nat.le_refl _
theorem now_strN (J : Int) (zs : List LimbV) (ps : List Int) (k : Nat) : ∀ m, strN (nowK J zs ps (k + m)) ≤ strN (nowK J zs ps k)
  | 0 => Nat.le_refl _
  | m + 1 => by
    have ih := now_strN J zs ps k m
    rw [show k + (m + 1) = k + m + 1 from rfl, nowK]
    split
    · exact Nat.le_trans (strN_set_le _ _) ih
    · exact ih
theorem now_need {N : Nat} {zs : List LimbV} {ps : List Int} (h : pullsB N zs ps = true) {j : Nat} (hj : j < N) (h0 : 0 ≤ pf (nowK N zs ps N) j) : needB N zs (nowK N zs ps N) j = true := by
  have hF := now_ok h N
  have hA := now_ok h j
  have hlp := (pulls_facts h).2.2.1
  by_cases h1 : strN (nowK N zs ps N) = 1
  · unfold needB
    rw [hF.1, inB_true.2 (show 0 ≤ (j : Int) ∧ (j : Int) ≤ (N : Int) - 1 by omega), Int.toNat_natCast, decide_eq_true h0, decide_eq_true h1]
    rfl
  · have hpF := (pulls_open hF.1).2.2.2
    have hFA : pf (nowK N zs ps N) j = pf (nowK N zs ps j) j := by
      have := now_sub N zs ps j j (N - j)
      rw [show j + (N - j) = N by omega] at this
      rcases this with e | e
      · exact e
      · omega
    have hFA1 : pf (nowK N zs ps N) j = pf (nowK N zs ps (j + 1)) j := by
      have := now_sub N zs ps (j + 1) j (N - (j + 1))
      rw [show j + 1 + (N - (j + 1)) = N by omega] at this
      rcases this with e | e
      · exact e
      · omega
    have hlA : (nowK N zs ps j).length = N := by rw [now_lenL]; omega
    have hns : hangsB N zs (nowK N zs ps j) ((nowK N zs ps j).set j (-1)) = false := by
      cases hh : hangsB N zs (nowK N zs ps j) ((nowK N zs ps j).set j (-1)) with
      | false => rfl
      | true =>
        rw [now_hit (by omega) hh, pf_set (by omega), upd_self] at hFA1
        omega
    have hsA : 1 < strN (nowK N zs ps j) := by
      have := now_strN N zs ps j (N - j)
      rw [show j + (N - j) = N by omega] at this
      omega
    have hsame := same_fall hA.1 hsA hj
    rw [hns] at hsame
    have hne := of_decide_eq_false hsame.symm
    have hge := fall_ge hA.1 hj (show strN (nowK N zs ps j) ≠ 1 by omega)
    refine need_fall ?_
    rw [fall_diff hA.1 hsA hj] at hne hge
    rw [fall_diff hF.1 (by omega) hj]
    have hpe : hp (fill N (edges zs)) (pf (nowK N zs ps N)) N j = hp (fill N (edges zs)) (pf (nowK N zs ps j)) N j := by
      have := hF.2.trans hA.2.symm
      rw [poseL_eq, poseL_eq] at this
      exact rl_inj this hj
    have hmo : hp (fill N (edges zs)) (pf ((nowK N zs ps N).set j (-1))) N j ≤ hp (fill N (edges zs)) (pf ((nowK N zs ps j).set j (-1))) N j := by
      rw [pf_set (by rw [now_lenL]; omega), pf_set (by omega)]
      refine hp_mono (fun v => ?_) N
      by_cases e : v = j
      · subst e; rw [upd_self, upd_self]; exact .inl rfl
      · rw [upd_ne e, upd_ne e]
        have := now_sub N zs ps j v (N - j)
        rw [show j + (N - j) = N by omega] at this
        rcases this with e | e
        · exact .inl e
        · right; omega
    omega
/-! The program's list of kept strings. -/
theorem idx_mem {ps : List Int} {k : Nat} {x : Int} : x ∈ idxL ps k ↔ ∃ j : Nat, j < k ∧ 0 ≤ pf ps j ∧ x = j := by
  simp only [idxL, List.mem_map, List.mem_filter, List.mem_range, decide_eq_true_eq]
  constructor
  · rintro ⟨j, ⟨h1, h2⟩, h3⟩; exact ⟨j, h1, h2, h3.symm⟩
  · rintro ⟨j, h1, h2, h3⟩; exact ⟨j, ⟨h1, h2⟩, h3.symm⟩
theorem idx_strN {ps : List Int} : ∀ k, k ≤ ps.length → (idxL ps k).length = strN (ps.take k)
  | 0, _ => rfl
  | k + 1, hk => by
    have ih := idx_strN (ps := ps) k (by omega)
    rw [strN_succ (pf_at (show k < ps.length by omega))]
    by_cases e : 0 ≤ pf ps k
    · rw [idx_hit e, if_pos e, List.length_append, ih]; rfl
    · rw [idx_miss (by omega), if_neg e, ih]; rfl
/-- The list that the law fills: after k kept strings. -/
def keepF (ps f : List Int) (k v : Nat) : Int := if (v : Int) ∈ f.take k then pf ps v else -1
theorem keepF_zero (ps f : List Int) : keepF ps f 0 = fun _ => -1 := by funext v; simp [keepF]
theorem keepF_next {ps f : List Int} {k : Nat} {x : Nat} (h : f[k]? = some (x : Int)) (N : Nat) : rl N (upd (keepF ps f k) x (pf ps x)) = rl N (keepF ps f (k + 1)) := rl_congr fun v hv => by
  unfold keepF
  rw [take_succ_of h]
  by_cases e : v = x
  · subst e
    rw [upd_self, if_pos (by simp)]
  · rw [upd_ne e]
    have : ((v : Int) ∈ f.take k ++ [(x : Int)]) = ((v : Int) ∈ f.take k) := by
      simp only [List.mem_append, List.mem_singleton, eq_iff_iff]
      constructor
      · rintro (h | h)
        · exact h
        · exact absurd h (by omega)
      · exact .inl
    simp only [this]
/-- What FewestStrings names, all that the law asks of it. -/
structure FewOk (N : Nat) (zs : List LimbV) (ps f now : List Int) : Prop where
  at_ : ∀ x ∈ f, ∃ v : Nat, v < N ∧ x = v ∧ 0 ≤ pf ps v ∧ needB N zs now v = true
  pos : 0 < f.length
  le : f.length ≤ strN ps
  hang : hangsB N zs ps now = true
  fin : rl N (keepF ps f f.length) = now
theorem few_ok {N : Nat} {zs : List LimbV} {ps : List Int} (h : pullsB N zs ps = true) : FewOk N zs ps (fewL N zs ps) (nowK N zs ps N) := by
  have hl := (pulls_facts h).2.2.1
  have hF := now_ok h N
  have hlF : (nowK N zs ps N).length = N := by rw [now_lenL]; omega
  have hb := (pulls_open hF.1).2.2.1
  have he : fewL N zs ps = idxL (nowK N zs ps N) N := by unfold fewL; rw [if_pos h, Int.toNat_natCast]
  have hpf : ∀ v, 0 ≤ pf (nowK N zs ps N) v → pf (nowK N zs ps N) v = pf ps v := by
    intro v hv
    have := now_sub N zs ps 0 v N
    rw [Nat.zero_add] at this
    rcases this with e | e
    · exact e
    · omega
  have hlen : (fewL N zs ps).length = strN (nowK N zs ps N) := by
    rw [he, idx_strN N (by omega), List.take_of_length_le (by omega)]
  refine ⟨?_, ?_, ?_, ?_, ?_⟩
  · intro x hx
    rw [he] at hx
    obtain ⟨v, h1, h2, h3⟩ := idx_mem.1 hx
    exact ⟨v, h1, h3, by rw [← hpf v h2]; exact h2, now_need h h1 h2⟩
  · rw [hlen]; exact (pulls_open hF.1).2.2.2
  · rw [hlen]
    have := now_strN N zs ps 0 N
    rwa [Nat.zero_add] at this
  · unfold hangsB
    rw [h, hF.1, hF.2]
    simp
  · apply List.ext_getElem?
    intro j
    by_cases hj : j < N
    · rw [rl_get _ hj, pf_at (show j < (nowK N zs ps N).length by omega)]
      unfold keepF
      rw [List.take_length, he]
      congr 1
      by_cases h0 : 0 ≤ pf (nowK N zs ps N) j
      · rw [if_pos (idx_mem.2 ⟨j, hj, h0, rfl⟩), hpf j h0]
      · rw [if_neg]
        · have := pf_bd hb j; omega
        · intro hm
          obtain ⟨v, h1, h2, h3⟩ := idx_mem.1 hm
          obtain rfl : j = v := by omega
          exact h0 h2
    · rw [List.getElem?_eq_none (by rw [rl_len]; omega), List.getElem?_eq_none (by omega)]
/-! The worst string. -/
theorem worst_str (J : Int) (zs : List LimbV) (ps : List Int) : ∀ k, 0 ≤ worstK J zs ps k → 0 ≤ pf ps (worstK J zs ps k).toNat
  | 0, h => by simp [worstK] at h
  | k + 1, h => by
    rw [worstK] at h ⊢
    split
    · rename_i c; rw [Int.toNat_natCast]; exact c.1
    · rename_i c; rw [if_neg c] at h; exact worst_str J zs ps k h
theorem worst_some (J : Int) (zs : List LimbV) (ps : List Int) : ∀ k v, v < k → 0 ≤ pf ps v → 0 ≤ worstK J zs ps k
  | 0, v, hv, _ => absurd hv (Nat.not_lt_zero _)
  | k + 1, v, hv, h => by
    rw [worstK]
    split
    · omega
    · rename_i c
      by_cases e : v = k
      · subst e
        have hc : ¬ (worstK J zs ps v < 0) := fun h2 => c ⟨h, .inl h2⟩
        omega
      · exact worst_some J zs ps k v (by omega) h
theorem worst_ok {N : Nat} {zs : List LimbV} {ps : List Int} (h : pullsB N zs ps = true) : (strN ps = 1 → worstV N zs ps = -1) ∧ (strN ps ≠ 1 → ∃ v : Nat, v < N ∧ worstV N zs ps = v ∧ 0 ≤ pf ps v) := by
  have hl := (pulls_facts h).2.2.1
  constructor
  · intro e; unfold worstV; rw [if_neg (by simp [e])]
  · intro e
    have hw : worstV N zs ps = worstK N zs ps N := by unfold worstV; rw [if_pos ⟨h, e⟩, Int.toNat_natCast]
    have hp0 := (pulls_open h).2.2.2
    obtain ⟨x, hx, hx0⟩ := List.countP_pos_iff.1 hp0
    obtain ⟨v, hv⟩ := List.mem_iff_getElem?.1 hx
    have hvl := (List.getElem?_eq_some_iff.1 hv).1
    have hge := worst_some N zs ps N v (by omega) (by rw [pf_get hv]; simpa using hx0)
    have hbd := worst_bd N zs ps N
    exact ⟨(worstK N zs ps N).toNat, by omega, by rw [hw]; omega, worst_str N zs ps N hge⟩
end Go.Proofs.Ytfedhjfijcnpdaa
