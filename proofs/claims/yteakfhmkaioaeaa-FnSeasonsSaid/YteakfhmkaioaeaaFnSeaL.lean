/- The plain law of FnSeasons: as many shows as possible keep their rest. -/
import Derived.Test.YteakfhmkaioaeaaMost
import Derived.Test.YteakfhmkaioaeaaRun
import Derived.Test.YteakfhmkaioaeaaAddShow
import Derived.Test.YteakfhmkaioaeaaHas
namespace Go.Proofs.Yteakfhmkaioaeaa
open Go.ChangeShapes Go.WideShapes Go.ChangeAt Go.RowKit Go.Joins
set_option linter.unusedSimpArgs false
set_option linter.unusedVariables false

theorem strictB_iff (zs : List Int) : strictB zs = true ↔ zs.Pairwise (· < ·) := by
  induction zs with
  | nil => simp [strictB]
  | cons x r ih =>
    cases r with
    | nil => simp [strictB]
    | cons y r =>
      rw [strictB_cons, Bool.and_eq_true, decide_eq_true_eq, ih]
      constructor
      · rintro ⟨h1, h2⟩
        refine List.pairwise_cons.2 ⟨fun a ha => ?_, h2⟩
        rcases List.mem_cons.1 ha with rfl | ha
        · exact h1
        · have := (List.pairwise_cons.1 h2).1 a ha; omega
      · intro h
        exact ⟨(List.pairwise_cons.1 h).1 y (by simp), (List.pairwise_cons.1 h).2⟩
theorem seasonB_iff (zs : List Int) : seasonB zs = true ↔ zs.length ≤ 60 ∧ zs.Pairwise (· < ·) ∧ ∀ z ∈ zs, 0 ≤ z ∧ z ≤ 365 := by
  simp only [seasonB, risesB, Bool.and_eq_true, decide_eq_true_eq, strictB_iff]
  refine and_congr_right fun _ => and_congr_right fun _ => ?_
  simp only [allB, List.all_eq_true, inB_true]
/-- A drawn season. -/
def Days (zs : List Int) : Prop := zs.length ≤ 13 ∧ zs.Pairwise (· < ·) ∧ ∀ z ∈ zs, 0 ≤ z ∧ z ≤ 200
theorem Days.ok {zs : List Int} (h : Days zs) : seasonB zs = true := (seasonB_iff zs).2 ⟨by have := h.1; omega, h.2.1, fun z hz => by have := h.2.2 z hz; omega⟩
theorem days_snoc {zs : List Int} (h : Days zs) : seasonB (zs ++ [300]) = true := by
  refine (seasonB_iff _).2 ⟨by have := h.1; simp; omega, ?_, ?_⟩
  · rw [List.pairwise_append]
    refine ⟨h.2.1, by simp, fun a ha b hb => ?_⟩
    simp at hb
    have := h.2.2 a ha
    omega
  · intro z hz
    rcases List.mem_append.1 hz with hz | hz
    · have := h.2.2 z hz; omega
    · simp at hz; omega
theorem putF_last {n : Int} {zs : List Int} (h : ∀ z ∈ zs, z < n) : putF n zs = zs ++ [n] := by
  induction zs with
  | nil => rfl
  | cons x r ih =>
    rw [putF_gt _ (by have := h x (by simp); omega), ih fun z hz => h z (by simp [hz])]
    rfl
theorem days_put {zs : List Int} (h : Days zs) : putF 300 zs = zs ++ [300] := putF_last fun z hz => by have := h.2.2 z hz; omega
theorem days_addOk {zs : List Int} (h : Days zs) : addOk zs 300 = true := by
  simp only [addOk, h.ok, days_put h, days_snoc h, Bool.and_self]
theorem days_add {zs : List Int} (h : Days zs) : addShow zs 300 = zs ++ [300] := (if_pos (days_addOk h)).trans (days_put h)
theorem putF_twice {n : Int} {zs : List Int} (h : ∀ z ∈ zs, z < n) : putF n (zs ++ [n]) = zs ++ [n, n] := by
  induction zs with
  | nil => simp [putF]
  | cons x r ih =>
    rw [List.cons_append, putF_gt _ (by have := h x (by simp); omega), ih fun z hz => h z (by simp [hz])]
    rfl
theorem days_twice {zs : List Int} (h : Days zs) : addOk (zs ++ [300]) 300 = false := by
  have h1 : seasonB (zs ++ [300, 300]) = false := by
    cases hs : seasonB (zs ++ [300, 300]) with
    | false => rfl
    | true =>
      have := ((seasonB_iff _).1 hs).2.1
      rw [List.pairwise_append] at this
      have := this.2.1
      simp at this
  simp only [addOk, putF_twice (n := 300) fun z hz => by have := h.2.2 z hz; omega, h1, Bool.and_false]
/-- The greatest gap is at least the last one. -/
theorem gaps_ge (zs : List Int) : ∀ b, b ≤ gaps zs b := by
  induction zs with
  | nil => intro b; exact Int.le_refl _
  | cons x r ih =>
    intro b
    cases r with
    | nil => exact Int.le_refl _
    | cons y r =>
      rw [gaps_step]
      have := ih (max b (y - x - 1))
      omega
theorem gaps_end (zs : List Int) (x y : Int) : ∀ b, y - x - 1 ≤ gaps (zs ++ [x, y]) b := by
  induction zs with
  | nil => intro b; show _ ≤ max b (y - x - 1); omega
  | cons z r ih =>
    intro b
    cases r with
    | nil => exact ih _
    | cons q r => exact ih _
theorem days_rest {zs : List Int} (h : Days zs) : (zs = [] ∧ longestRest (zs ++ [300]) = -1) ∨ (0 < zs.length ∧ 0 ≤ longestRest (zs ++ [300]) ∧ 300 - zs.getD (zs.length - 1) 0 - 1 ≤ longestRest (zs ++ [300])) := by
  rcases Nat.eq_zero_or_pos zs.length with h0 | h0
  · left
    have := List.eq_nil_of_length_eq_zero h0
    subst this
    exact ⟨rfl, if_neg (by simp)⟩
  · right
    have hv : longestRest (zs ++ [300]) = gaps (zs ++ [300]) 0 := if_pos ⟨days_snoc h, by simp; omega⟩
    rw [hv]
    refine ⟨h0, gaps_ge _ _, ?_⟩
    obtain ⟨A, x, rfl⟩ : ∃ A x, zs = A ++ [x] := ⟨zs.dropLast, zs.getLast (by intro e; subst e; simp at h0), (List.dropLast_concat_getLast _).symm⟩
    have : (A ++ [x]).getD ((A ++ [x]).length - 1) 0 = x := by simp
    rw [this, List.append_assoc]
    exact gaps_end A x 300 0
/-- How the greatest run grows, an element at a time. -/
def runS (s : Option Int × Int × Int) (x : Int) : Option Int × Int × Int := if s.1 = some (x - 1) then (some x, s.2.1 + 1, max s.2.2 (s.2.1 + 1)) else (some x, 1, max s.2.2 1)
theorem runF_fold (zs : List Int) : ∀ p n b, runF p zs n b = (zs.foldl runS (p, n, b)).2.2 := by
  induction zs with
  | nil => intro p n b; rfl
  | cons x r ih =>
    intro p n b
    rw [List.foldl_cons]
    by_cases h : p = some (x - 1)
    · rw [runF_hit r n b h, ih]
      simp [runS, h]
    · rw [runF_miss r n b h, ih]
      simp [runS, h]
theorem runF_ge (zs : List Int) : ∀ p n b, b ≤ runF p zs n b := by
  induction zs with
  | nil => intro p n b; exact Int.le_refl _
  | cons x r ih =>
    intro p n b
    by_cases h : p = some (x - 1)
    · rw [runF_hit r n b h]; have := ih (some x) (n + 1) (max b (n + 1)); omega
    · rw [runF_miss r n b h]; have := ih (some x) 1 (max b 1); omega
theorem days_run {zs : List Int} (h : Days zs) : (if decide (0 < zs.length) = true then 1 else 0) ≤ longestRun zs := by
  rw [show longestRun zs = runF none zs 0 0 from if_pos h.ok]
  cases zs with
  | nil => exact Int.le_refl _
  | cons x r =>
    rw [runF_miss r 0 0 (by simp)]
    have := runF_ge r (some x) 1 (max 0 1)
    simp
    omega
/-- The shows that must fall: what is still to come, the element ahead of it, those fallen, the row. -/
def leastF (m : Nat) : Option Int → List Int → Nat → Nat → Nat
  | _, [], l, row => l + row / (m + 1)
  | p, x :: r, l, row => if p = some (x - 1) then leastF m (some x) r l (row + 1) else leastF m (some x) r (l + row / (m + 1)) 1
theorem leastF_hit {m : Nat} {p : Option Int} {x : Int} (r : List Int) (l row : Nat) (h : p = some (x - 1)) : leastF m p (x :: r) l row = leastF m (some x) r l (row + 1) := if_pos h
theorem leastF_miss {m : Nat} {p : Option Int} {x : Int} (r : List Int) (l row : Nat) (h : p ≠ some (x - 1)) : leastF m p (x :: r) l row = leastF m (some x) r (l + row / (m + 1)) 1 := if_neg h
theorem leastF_zero {m : Nat} (hm : 1 ≤ m) (zs : List Int) : ∀ (p : Option Int) (l row : Nat) (b : Int), (l + row / (m + 1) = 0 ↔ b ≤ m) → (leastF m p zs l row = 0 ↔ runF p zs row b ≤ m) := by
  induction zs with
  | nil => intro p l row b h; exact h
  | cons x r ih =>
    intro p l row b h
    have hdiv : ∀ a : Nat, a / (m + 1) = 0 ↔ a ≤ m := fun a => by rw [Nat.div_eq_zero_iff]; omega
    by_cases hp : p = some (x - 1)
    · rw [leastF_hit r l row hp, runF_hit r row b hp]
      have := ih (some x) l (row + 1) (max b (row + 1)) (by
        have h1 := hdiv (row + 1)
        have h2 := hdiv row
        generalize (row + 1) / (m + 1) = a1 at h1 ⊢
        generalize row / (m + 1) = a2 at h2 h
        constructor
        · intro h0
          have h3 : row + 1 ≤ m := h1.1 (by omega)
          have h4 := h.1 (by have := h2.2 (by omega); omega)
          omega
        · intro h0
          have h3 := h.2 (by omega)
          have h4 := h1.2 (by omega)
          omega)
      simpa using this
    · rw [leastF_miss r l row hp, runF_miss r row b hp]
      have := ih (some x) (l + row / (m + 1)) 1 (max b 1) (by
        have h1 := (hdiv 1).2 hm
        generalize 1 / (m + 1) = a1 at h1 ⊢
        generalize row / (m + 1) = a2 at h ⊢
        constructor
        · intro h0
          have := h.1 (by omega)
          omega
        · intro h0
          have := h.2 (by omega)
          omega)
      simpa using this
/-- What the days taken, the row and the days gone by have in common. -/
def Inv (m : Nat) (p : Option Int) (A : List Int) (n : Int) (row : Nat) : Prop :=
  (p = none ∧ A = [] ∧ row = 0) ∨ ∃ y b, p = some y ∧ 1 ≤ row ∧ b ≤ (m : Int) ∧
    ((∃ q : Nat, row % (m + 1) = q ∧ 0 < q ∧ n = q ∧ A.foldl runS (none, 0, 0) = (some y, n, b) ∧ A.getLast? = some y) ∨
     (row % (m + 1) = 0 ∧ n = m ∧ A.foldl runS (none, 0, 0) = (some (y - 1), n, b) ∧ A.getLast? = some (y - 1)))
theorem inv_push {m : Nat} {A : List Int} {d : Int} {s : Option Int × Int × Int} (hs : A.foldl runS (none, 0, 0) = s) : (A ++ [d]).foldl runS (none, 0, 0) = runS s d ∧ (A ++ [d]).getLast? = some d := by
  rw [List.foldl_append, hs]
  exact ⟨rfl, by simp⟩
theorem mostF_main {m : Nat} (hm : 1 ≤ m) (zs : List Int) : ∀ (p : Option Int) (A : List Int) (n : Int) (l row : Nat), (∀ y, p = some y → ∀ z ∈ zs, y < z) → zs.Pairwise (· < ·) → Inv m p A n row →
    (mostF m zs A n).length + leastF m p zs l row = A.length + zs.length + (l + row / (m + 1)) ∧ ((mostF m zs A n).foldl runS (none, 0, 0)).2.2 ≤ m := by
  induction zs with
  | nil =>
    intro p A n l row _ _ hI
    refine ⟨by simp [mostF, leastF], ?_⟩
    show (A.foldl runS (none, 0, 0)).2.2 ≤ m
    rcases hI with ⟨_, rfl, _⟩ | ⟨y, b, _, _, hb, ⟨q, _, _, _, h, _⟩ | ⟨_, _, h, _⟩⟩
    · simp
    · rw [h]; exact hb
    · rw [h]; exact hb
  | cons d r ih =>
    intro p A n l row hp hpw hI
    have hr := (List.pairwise_cons.1 hpw).2
    have hd : ∀ y, some d = some y → ∀ z ∈ r, y < z := fun y hy z hz => by simp at hy; subst hy; exact (List.pairwise_cons.1 hpw).1 z hz
    -- a new row of the days taken
    have hnew : follows A d = false → p ≠ some (d - 1) → (∃ b, (A ++ [d]).foldl runS (none, 0, 0) = (some d, 1, b) ∧ b ≤ (m : Int)) →
        (mostF m (d :: r) A n).length + leastF m p (d :: r) l row = A.length + (d :: r).length + (l + row / (m + 1)) ∧ ((mostF m (d :: r) A n).foldl runS (none, 0, 0)).2.2 ≤ m := by
      intro hf hpd ⟨b, hb1, hb2⟩
      rw [mostF_new r A n hf, leastF_miss r l row hpd]
      have h1m : 1 % (m + 1) = 1 := Nat.mod_eq_of_lt (by omega)
      have h1d : 1 / (m + 1) = 0 := Nat.div_eq_of_lt (by omega)
      have := ih (some d) (A ++ [d]) 1 (l + row / (m + 1)) 1 hd hr (.inr ⟨d, b, rfl, Nat.le_refl _, hb2, .inl ⟨1, h1m, by omega, rfl, hb1, by simp⟩⟩)
      refine ⟨?_, this.2⟩
      have := this.1
      simp only [List.length_append, List.length_cons, List.length_nil, h1d] at this ⊢
      omega
    rcases hI with ⟨rfl, rfl, rfl⟩ | ⟨y, b, rfl, hrow, hb, hI⟩
    · exact hnew rfl (by simp) ⟨max 0 1, by simp [runS], by omega⟩
    · have hyd : y < d := hp y rfl d (by simp)
      by_cases hyd1 : y = d - 1
      · subst hyd1
        rw [leastF_hit r l row rfl]
        rcases hI with ⟨q, hq, hq0, hn, hs, hl⟩ | ⟨hq, hn, hs, hl⟩
        · have hf : follows A d = true := by simp [follows, hl]
          by_cases hnm : n = m
          · rw [hnm, mostF_full r A hf]
            have hqm : q = m := by omega
            have hdiv : (row + 1) / (m + 1) = row / (m + 1) + 1 := by
              have e1 := Nat.div_add_mod row (m + 1)
              rw [hq, hqm] at e1
              have e2 : row + 1 = (m + 1) * (row / (m + 1) + 1) := by rw [Nat.mul_add, Nat.mul_one]; omega
              rw [e2, Nat.mul_div_cancel_left _ (by omega)]
            have hmod : (row + 1) % (m + 1) = 0 := by
              have e1 := Nat.div_add_mod row (m + 1)
              rw [hq, hqm] at e1
              have e2 : row + 1 = (m + 1) * (row / (m + 1) + 1) := by rw [Nat.mul_add, Nat.mul_one]; omega
              rw [e2, Nat.mul_mod_right]
            have := ih (some d) A m l (row + 1) hd hr (.inr ⟨d, b, rfl, by omega, hb, .inr ⟨hmod, rfl, by rw [← hnm]; exact hs, hl⟩⟩)
            refine ⟨?_, this.2⟩
            have := this.1
            rw [hdiv] at this
            simp only [List.length_cons] at this ⊢
            omega
          · rw [mostF_more r A n hf hnm]
            have hlt : q < m + 1 := by rw [← hq]; exact Nat.mod_lt _ (by omega)
            have hmod : (row + 1) % (m + 1) = q + 1 := by
              have e1 := Nat.div_add_mod row (m + 1)
              rw [hq] at e1
              have e2 : row + 1 = (m + 1) * (row / (m + 1)) + (q + 1) := by omega
              rw [e2, Nat.mul_add_mod, Nat.mod_eq_of_lt (by omega)]
            have hdiv : (row + 1) / (m + 1) = row / (m + 1) := by
              have e1 := Nat.div_add_mod row (m + 1)
              have e2 := Nat.div_add_mod (row + 1) (m + 1)
              rw [hq] at e1
              rw [hmod] at e2
              have e3 : (m + 1) * ((row + 1) / (m + 1)) = (m + 1) * (row / (m + 1)) := by omega
              exact Nat.eq_of_mul_eq_mul_left (by omega) e3
            have hp2 := inv_push (m := m) (d := d) hs
            have hst : runS (some (d - 1), n, b) d = (some d, n + 1, max b (n + 1)) := by simp [runS]
            rw [hst] at hp2
            have := ih (some d) (A ++ [d]) (n + 1) l (row + 1) hd hr (.inr ⟨d, max b (n + 1), rfl, by omega, by omega, .inl ⟨q + 1, hmod, by omega, by omega, hp2.1, hp2.2⟩⟩)
            refine ⟨?_, this.2⟩
            have := this.1
            rw [hdiv] at this
            simp only [List.length_append, List.length_cons, List.length_nil] at this ⊢
            omega
        · have hf : follows A d = false := by simp [follows, hl]; omega
          rw [mostF_new r A n hf]
          have h1m : 1 % (m + 1) = 1 := Nat.mod_eq_of_lt (by omega)
          have hmod : (row + 1) % (m + 1) = 1 := by
            have e1 := Nat.div_add_mod row (m + 1)
            rw [hq] at e1
            have e2 : row + 1 = (m + 1) * (row / (m + 1)) + 1 := by omega
            rw [e2, Nat.mul_add_mod, h1m]
          have hdiv : (row + 1) / (m + 1) = row / (m + 1) := by
            have e1 := Nat.div_add_mod row (m + 1)
            have e2 := Nat.div_add_mod (row + 1) (m + 1)
            rw [hq] at e1
            rw [hmod] at e2
            have e3 : (m + 1) * ((row + 1) / (m + 1)) = (m + 1) * (row / (m + 1)) := by omega
            exact Nat.eq_of_mul_eq_mul_left (by omega) e3
          have hp2 := inv_push (m := m) (d := d) hs
          have hst : runS (some (d - 1 - 1), n, b) d = (some d, 1, max b 1) := if_neg (by simp; omega)
          rw [hst] at hp2
          have := ih (some d) (A ++ [d]) 1 l (row + 1) hd hr (.inr ⟨d, max b 1, rfl, by omega, by omega, .inl ⟨1, hmod, by omega, rfl, hp2.1, hp2.2⟩⟩)
          refine ⟨?_, this.2⟩
          have := this.1
          rw [hdiv] at this
          simp only [List.length_append, List.length_cons, List.length_nil] at this ⊢
          omega
      · refine hnew ?_ (by simp; omega) ?_
        · rcases hI with ⟨q, hq, hq0, hn, hs, hl⟩ | ⟨hq, hn, hs, hl⟩
          · simp [follows, hl]; omega
          · simp [follows, hl]; omega
        · rcases hI with ⟨q, hq, hq0, hn, hs, hl⟩ | ⟨hq, hn, hs, hl⟩
          · exact ⟨max b 1, by rw [(inv_push (m := m) (d := d) hs).1]; exact if_neg (by simp; omega), by omega⟩
          · exact ⟨max b 1, by rw [(inv_push (m := m) (d := d) hs).1]; exact if_neg (by simp; omega), by omega⟩
theorem mostF_sub (m : Int) (zs : List Int) : ∀ A n, (mostF m zs A n).Sublist (A ++ zs) := by
  induction zs with
  | nil => intro A n; simp [mostF]
  | cons d r ih =>
    intro A n
    have h1 : ∀ k, (mostF m r (A ++ [d]) k).Sublist (A ++ d :: r) := fun k => by have := ih (A ++ [d]) k; simpa using this
    unfold mostF
    split
    · split
      · exact (ih A n).trans (List.Sublist.append (List.Sublist.refl _) (List.sublist_cons_self _ _))
      · exact h1 _
    · exact h1 _
section
variable {zs : List Int} (h : Days zs) {m : Nat} (hm : 1 ≤ m) (hm4 : m ≤ 4)
include h hm hm4
theorem days_most : mostShows zs m = mostF m zs [] 0 := if_pos (by simp only [mostB, h.ok, Bool.true_and]; exact inB_of (by omega) (by omega))
theorem days_main : (mostShows zs m).length + leastF m none zs 0 0 = zs.length ∧ runF none (mostShows zs m) 0 0 ≤ m := by
  rw [days_most h hm hm4, runF_fold]
  have := mostF_main hm zs none [] 0 0 0 (by simp) h.2.1 (.inl ⟨rfl, rfl, rfl⟩)
  simpa using this
theorem days_sub : (mostShows zs m).Sublist zs := by
  rw [days_most h hm hm4]
  exact mostF_sub m zs [] 0
theorem days_season : seasonB (mostShows zs m) = true := by
  have hs := days_sub h hm hm4
  exact (seasonB_iff _).2 ⟨by have := hs.length_le; have := h.1; omega, h.2.1.sublist hs, fun z hz => by have := h.2.2 z (hs.subset hz); omega⟩
theorem days_keeps : keepsRest (mostShows zs m) m = true := by
  have h1 := days_season h hm hm4
  have h2 : longestRun (mostShows zs m) ≤ m := by
    rw [show longestRun (mostShows zs m) = runF none (mostShows zs m) 0 0 from if_pos h1]
    exact (days_main h hm hm4).2
  simp only [keepsRest, h1, Bool.true_and, decide_eq_true h2, Bool.and_true]
  exact inB_of (by omega) (by omega)
theorem days_all : keepsRest zs m = decide ((mostShows zs m).length = zs.length) := by
  have h1 : keepsRest zs m = decide (longestRun zs ≤ m) := by
    simp only [keepsRest, h.ok, Bool.true_and, show inB (m : Int) 1 60 = true from inB_of (by omega) (by omega)]
  rw [h1, show longestRun zs = runF none zs 0 0 from if_pos h.ok]
  have h2 := (days_main h hm hm4).1
  have h3 := leastF_zero hm zs none 0 0 0 (by simp)
  refine decide_eq_decide.2 ?_
  rw [show ((0 : Nat) : Int) = 0 from rfl] at h3
  rw [← h3]
  omega
theorem days_has {k : Nat} (hk : k < (mostShows zs m).length) : zs.any (· == (mostShows zs m).getD k 0) = true := by
  have hin := (days_sub h hm hm4).subset (getD_mem hk)
  rw [List.any_eq_true]
  exact ⟨_, hin, by simp⟩
end
end Go.Proofs.Yteakfhmkaioaeaa
