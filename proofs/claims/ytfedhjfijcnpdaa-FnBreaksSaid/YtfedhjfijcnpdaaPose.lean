/- Poses (plain law). -/
import Derived.Test.YtfedhjfijcnpdaaTWay
import Derived.Test.YtfedhjfijcnpdaaAll
namespace Go.Proofs.Ytfedhjfijcnpdaa
open Tr
set_option linter.unusedVariables false
theorem pf_get {ps : List Int} {i : Nat} {x : Int} (h : ps[i]? = some x) : pf ps i = x := by
  unfold pf
  rw [List.getD_eq_getElem?_getD, h]
  rfl
/-- The strings that the program counts. -/
def cntI (ps : List Int) : Nat := ps.countP fun p => decide (p ≠ -1)
theorem cntI_strN {ps : List Int} (h : ∀ p ∈ ps, -1 ≤ p ∧ p ≤ 500) : cntI ps = strN ps := by
  unfold cntI strN
  apply List.countP_congr
  intro p hp
  have := h p hp
  simp only [decide_eq_true_eq]
  omega
theorem take_succ_of {ps : List Int} {i : Nat} {x : Int} (h : ps[i]? = some x) : ps.take (i + 1) = ps.take i ++ [x] := by rw [List.take_add_one, h]; rfl
theorem strN_succ {ps : List Int} {i : Nat} {x : Int} (h : ps[i]? = some x) : strN (ps.take (i + 1)) = strN (ps.take i) + (if 0 ≤ x then 1 else 0) := by
  unfold strN
  rw [take_succ_of h, List.countP_append]
  by_cases hx : 0 ≤ x <;> simp [hx]
theorem cntI_succ {ps : List Int} {i : Nat} {x : Int} (h : ps[i]? = some x) : cntI (ps.take (i + 1)) = cntI (ps.take i) + (if x ≠ -1 then 1 else 0) := by
  unfold cntI
  rw [take_succ_of h, List.countP_append]
  by_cases hx : x = -1 <;> simp [hx]
theorem strN_le (ps : List Int) : strN ps ≤ ps.length := List.countP_le_length
theorem cntI_le (ps : List Int) : cntI ps ≤ ps.length := List.countP_le_length
theorem pulls_ok {J : Int} {zs : List LimbV} {ps : List Int} (hb : bodyB J zs = true) (hl : (ps.length : Int) = J) (h1 : ∀ p ∈ ps, -1 ≤ p ∧ p ≤ 500) (h2 : 0 < strN ps) : pullsB J zs ps = true := by
  unfold pullsB
  rw [hb, decide_eq_true hl, List.all_eq_true.2 fun p hp => inB_true.2 (h1 p hp), decide_eq_true h2]
  rfl
theorem pulls_no1 {J : Int} {zs : List LimbV} {ps : List Int} (hb : bodyB J zs = false) : pullsB J zs ps = false := by unfold pullsB; rw [hb]; rfl
theorem pulls_no2 {J : Int} {zs : List LimbV} {ps : List Int} (hl : ¬ (ps.length : Int) = J) : pullsB J zs ps = false := by unfold pullsB; rw [decide_eq_false hl]; simp
theorem pulls_no3 {J : Int} {zs : List LimbV} {ps : List Int} {p : Int} (hp : p ∈ ps) (h : inB p (-1) 500 = false) : pullsB J zs ps = false := by
  unfold pullsB
  have : (ps.all fun p => inB p (-1) 500) = false := List.all_eq_false.2 ⟨p, hp, by simp [h]⟩
  rw [this]
  simp
theorem pulls_no4 {J : Int} {zs : List LimbV} {ps : List Int} (h : ¬ 0 < strN ps) : pullsB J zs ps = false := by unfold pullsB; rw [decide_eq_false h]; simp
theorem pulls_eq {J : Int} {zs : List LimbV} {ps : List Int} (hb : bodyB J zs = true) (hl : (ps.length : Int) = J) : pullsB J zs ps = (allB ps (-1) 500 && decide (0 < cntI ps)) := by
  unfold pullsB
  rw [hb, decide_eq_true hl, Bool.true_and, Bool.true_and]
  show (allB ps (-1) 500 && _) = _
  cases h : allB ps (-1) 500 with
  | false => rfl
  | true => rw [cntI_strN (allB_mem h)]
theorem hp_bd {d : Nat → Nat → Int} {p : Nat → Int} {N : Nat} (hd : ∀ i j, i < N → j < N → 0 ≤ d i j ∧ d i j ≤ 1200) (hp1 : ∀ i, i < N → p i ≤ 500) {j : Nat} (hj : j < N) : ∀ m, m ≤ N → -2000 ≤ hp d p m j ∧ hp d p m j ≤ 500
  | 0, _ => by simp [hp]
  | m + 1, hm => by
    have ih := hp_bd hd hp1 hj m (by omega)
    have := hd m j (by omega) hj
    have := hp1 m (by omega)
    unfold hp
    split
    · exact ih
    · omega
/-- While a joint's pose is sought: is there a string below i, and the best so far. -/
def hasB (ps : List Int) (i : Nat) : Bool := decide (0 < strN (ps.take i))
def bestV (d : Nat → Nat → Int) (ps : List Int) (i j : Nat) : Int := if hasB ps i = true then hp d (pf ps) i j else 0
theorem hp_none {d : Nat → Nat → Int} {ps : List Int} {j : Nat} : ∀ i, i ≤ ps.length → strN (ps.take i) = 0 → hp d (pf ps) i j = -2000
  | 0, _, _ => rfl
  | i + 1, hi, h => by
    obtain ⟨x, hx⟩ : ∃ x, ps[i]? = some x := ⟨_, List.getElem?_eq_getElem hi⟩
    rw [strN_succ hx] at h
    have hx0 : ¬ 0 ≤ x := by intro h0; rw [if_pos h0] at h; omega
    rw [if_neg hx0] at h
    unfold hp
    rw [pf_get hx, if_pos (by omega)]
    exact hp_none i (by omega) (by omega)
section
variable {d : Nat → Nat → Int} {ps : List Int} {i j : Nat} {x : Int}
theorem best_zero : hasB ps 0 = false ∧ bestV d ps 0 j = 0 := by simp [hasB, bestV, strN]
theorem best_skip (hx : ps[i]? = some x) (h : x < 0) : hasB ps (i + 1) = hasB ps i ∧ bestV d ps (i + 1) j = bestV d ps i j := by
  have h1 : hasB ps (i + 1) = hasB ps i := by unfold hasB; rw [strN_succ hx, if_neg (by omega)]; rfl
  refine ⟨h1, ?_⟩
  unfold bestV
  rw [h1]
  split
  · rw [hp, pf_get hx, if_pos h]
  · rfl
theorem has_in (hx : ps[i]? = some x) (h : 0 ≤ x) : hasB ps (i + 1) = true := by unfold hasB; rw [strN_succ hx, if_pos h]; simp
theorem best_first (hx : ps[i]? = some x) (h : 0 ≤ x) (hd : 0 ≤ d i j ∧ d i j ≤ 1200) (hn : hasB ps i = false) : bestV d ps (i + 1) j = x - d i j := by
  have hi := (List.getElem?_eq_some_iff.1 hx).1
  have h0 : strN (ps.take i) = 0 := by
    unfold hasB at hn
    have := of_decide_eq_false hn
    omega
  unfold bestV
  rw [if_pos (has_in hx h), hp, pf_get hx, if_neg (by omega), hp_none i (by omega) h0]
  omega
theorem best_next (hx : ps[i]? = some x) (h : 0 ≤ x) (hn : hasB ps i = true) : bestV d ps (i + 1) j = max (bestV d ps i j) (x - d i j) := by
  unfold bestV
  rw [if_pos (has_in hx h), if_pos hn, hp, pf_get hx, if_neg (by omega)]
theorem best_bd {N : Nat} (hd : ∀ i j, i < N → j < N → 0 ≤ d i j ∧ d i j ≤ 1200) (hp1 : ∀ p ∈ ps, -1 ≤ p ∧ p ≤ 500) (hj : j < N) (hi : i ≤ N) : -2000 ≤ bestV d ps i j ∧ bestV d ps i j ≤ 500 := by
  have hp2 : ∀ i, i < N → pf ps i ≤ 500 := by
    intro i _
    unfold pf
    rw [List.getD_eq_getElem?_getD]
    cases h : ps[i]? with
    | none => simp
    | some x => exact (hp1 x (List.mem_of_getElem? h)).2
  have := hp_bd hd hp2 hj i hi
  unfold bestV
  split
  · exact this
  · omega
theorem best_end {N : Nat} (hl : ps.length = N) (hs : 0 < strN ps) : bestV d ps N j = hp d (pf ps) N j := by
  unfold bestV
  rw [if_pos]
  unfold hasB
  rw [← hl, List.take_length]
  exact decide_eq_true hs
end
theorem pf_bd {ps : List Int} (h : ∀ p ∈ ps, -1 ≤ p ∧ p ≤ 500) (i : Nat) : -1 ≤ pf ps i ∧ pf ps i ≤ 500 := by
  unfold pf
  rw [List.getD_eq_getElem?_getD]
  cases hx : ps[i]? with
  | none => simp
  | some x => exact h x (List.mem_of_getElem? hx)
/-- While the reference lowers all joints for one string: the joints below b are done. -/
def hpU (d : Nat → Nat → Int) (p : Nat → Int) (m b v : Nat) : Int := if v < b then hp d p (m + 1) v else hp d p m v
theorem hpU_zero (d : Nat → Nat → Int) (p : Nat → Int) (m : Nat) : hpU d p m 0 = hp d p m := by funext v; simp [hpU]
theorem hpU_end (d : Nat → Nat → Int) (p : Nat → Int) (m N : Nat) : rl N (hpU d p m N) = rl N (hp d p (m + 1)) := rl_congr fun v hv => by simp [hpU, hv]
theorem hpU_at (d : Nat → Nat → Int) (p : Nat → Int) (m b : Nat) : hpU d p m b b = hp d p m b := by simp [hpU]
theorem hpU_next {d : Nat → Nat → Int} {p : Nat → Int} {m b N : Nat} (h : 0 ≤ p m) : rl N (upd (hpU d p m b) b (max (hp d p m b) (p m - d m b))) = rl N (hpU d p m (b + 1)) := rl_congr fun v hv => by
  by_cases e : v = b
  · subst e
    rw [upd_self]
    unfold hpU
    rw [if_pos (by omega), hp, if_neg (by omega)]
  · rw [upd_ne e]
    unfold hpU
    by_cases h3 : v < b
    · rw [if_pos h3, if_pos (by omega)]
    · rw [if_neg h3, if_neg (by omega)]
theorem hp_skip {d : Nat → Nat → Int} {p : Nat → Int} {m : Nat} (h : p m < 0) : hp d p (m + 1) = hp d p m := by funext v; rw [hp, if_pos h]
end Go.Proofs.Ytfedhjfijcnpdaa
