/- The plain law of RehearsalPlan: cues put in one by one behind all that weigh as much or more, and the heaviest cue taken out again and again, give the same list. -/
import Derived.Test.YtcplfempajfcdaaMem
namespace Go.Proofs.Ytcplfempajfcdaa
set_option linter.unusedSimpArgs false
set_option linter.unusedVariables false

/-- The weight of cue e. -/
def val (L : List Int) (e : Int) : Int := L.getD e.toNat 0
/-- Where a cue of weight w goes: behind the last one that does not weigh less. -/
def posF (L : List Int) (w : Int) (P : List Int) : Nat → Nat
  | 0 => 0
  | k + 1 => if val L (P.getD k 0) < w then posF L w P k else k + 1
theorem posF_go {L : List Int} {w : Int} {P : List Int} {k : Nat} (h : val L (P.getD k 0) < w) : posF L w P (k + 1) = posF L w P k := if_pos h
theorem posF_stop {L : List Int} {w : Int} {P : List Int} {k : Nat} (h : ¬ val L (P.getD k 0) < w) : posF L w P (k + 1) = k + 1 := if_neg h
theorem posF_le (L : List Int) (w : Int) (P : List Int) : ∀ k, posF L w P k ≤ k := by
  intro k
  induction k with
  | zero => exact Nat.le_refl _
  | succ k ih => unfold posF; split <;> omega
def insF (L P : List Int) (c : Int) : List Int := P.take (posF L (val L c) P P.length) ++ c :: P.drop (posF L (val L c) P P.length)
theorem insF_length (L P : List Int) (c : Int) : (insF L P c).length = P.length + 1 := by
  have := posF_le L (val L c) P P.length
  simp [insF]
  omega
def planF (L : List Int) : Nat → List Int
  | 0 => []
  | c + 1 => if val L c = 0 then planF L c else insF L (planF L c) c
theorem planF_skip {L : List Int} {c : Nat} (h : val L c = 0) : planF L (c + 1) = planF L c := if_pos h
theorem planF_put {L : List Int} {c : Nat} (h : val L c ≠ 0) : planF L (c + 1) = insF L (planF L c) c := if_neg h
theorem planF_length (L : List Int) (c : Nat) : (planF L c).length ≤ c := by
  induction c with
  | zero => exact Nat.le_refl _
  | succ c ih =>
    unfold planF
    split
    · omega
    · rw [insF_length]; omega
/-- d stands ahead of e. -/
def Ahd (L : List Int) (d e : Int) : Prop := val L e < val L d ∨ (val L d = val L e ∧ d < e)
theorem posF_spec (L : List Int) (w : Int) (P : List Int) : ∀ k, k ≤ P.length → (∀ i, posF L w P k ≤ i → i < k → val L (P.getD i 0) < w) ∧ (posF L w P k = 0 ∨ ¬ val L (P.getD (posF L w P k - 1) 0) < w) := by
  intro k
  induction k with
  | zero => intro _; exact ⟨fun i h1 h2 => by omega, .inl rfl⟩
  | succ k ih =>
    intro hk
    by_cases h : val L (P.getD k 0) < w
    · rw [posF_go h]
      obtain ⟨h1, h2⟩ := ih (by omega)
      refine ⟨fun i h3 h4 => ?_, h2⟩
      by_cases hi : i = k
      · subst hi; exact h
      · exact h1 i h3 (by omega)
    · rw [posF_stop h]
      exact ⟨fun i h1 h2 => by omega, .inr (by simpa using h)⟩
theorem insF_sorted {L P : List Int} {c : Int} (h : P.Pairwise (Ahd L)) (hc : ∀ e ∈ P, e < c) : (insF L P c).Pairwise (Ahd L) := by
  obtain ⟨h1, h2⟩ := posF_spec L (val L c) P P.length (Nat.le_refl _)
  have hle := posF_le L (val L c) P P.length
  unfold insF
  generalize posF L (val L c) P P.length = p at h1 h2 hle
  have hsp : P.take p ++ P.drop p = P := List.take_append_drop p P
  have hpw : (P.take p ++ P.drop p).Pairwise (Ahd L) := by rw [hsp]; exact h
  obtain ⟨ha, hb, hab⟩ := List.pairwise_append.1 hpw
  refine List.pairwise_append.2 ⟨ha, List.pairwise_cons.2 ⟨fun e he => ?_, hb⟩, fun d hd e he => ?_⟩
  · obtain ⟨i, hi, rfl⟩ := List.mem_iff_getElem.1 he
    rw [List.length_drop] at hi
    have := h1 (p + i) (by omega) (by omega)
    rw [List.getD_eq_getElem?_getD, List.getElem?_eq_getElem (by omega)] at this
    rw [List.getElem_drop]
    exact .inl this
  · rcases List.mem_cons.1 he with rfl | he
    · obtain ⟨i, hi, rfl⟩ := List.mem_iff_getElem.1 hd
      rw [List.length_take] at hi
      have hip : i < p := by omega
      have hiP : i < P.length := by omega
      rw [List.getElem_take]
      have hw : ¬ val L (P.getD (p - 1) 0) < val L e := by
        rcases h2 with h2 | h2
        · omega
        · exact h2
      rw [List.getD_eq_getElem?_getD, List.getElem?_eq_getElem (by omega)] at hw
      simp only [Option.getD_some] at hw
      have hge : val L P[p - 1] ≤ val L P[i] := by
        by_cases hi1 : i = p - 1
        · subst hi1; exact Int.le_refl _
        · have := List.pairwise_iff_getElem.1 h i (p - 1) hiP (by omega) (by omega)
          rcases this with h3 | h3 <;> omega
      have hlt := hc P[i] (List.getElem_mem hiP)
      rcases Int.lt_or_le (val L e) (val L P[i]) with h3 | h3
      · exact .inl h3
      · exact .inr ⟨by omega, hlt⟩
    · exact hab d hd e he
theorem mem_insF {L P : List Int} {c e : Int} : e ∈ insF L P c ↔ e = c ∨ e ∈ P := by
  unfold insF
  generalize posF L (val L c) P P.length = p
  have hsp : P.take p ++ P.drop p = P := List.take_append_drop p P
  rw [List.mem_append, List.mem_cons]
  constructor
  · rintro (h | h | h)
    · exact .inr (List.mem_of_mem_take h)
    · exact .inl h
    · exact .inr (List.mem_of_mem_drop h)
  · rintro (h | h)
    · exact .inr (.inl h)
    · rw [← hsp, List.mem_append] at h
      rcases h with h | h
      · exact .inl h
      · exact .inr (.inr h)
theorem planF_spec (L : List Int) : ∀ c : Nat, (planF L c).Pairwise (Ahd L) ∧ ∀ e, e ∈ planF L c ↔ 0 ≤ e ∧ e < c ∧ val L e ≠ 0 := by
  intro c
  induction c with
  | zero => exact ⟨List.Pairwise.nil, fun e => by simp [planF]; omega⟩
  | succ c ih =>
    obtain ⟨h1, h2⟩ := ih
    by_cases h : val L c = 0
    · rw [planF_skip h]
      refine ⟨h1, fun e => ?_⟩
      rw [h2 e]
      constructor
      · rintro ⟨a, b, d⟩; exact ⟨a, by omega, d⟩
      · rintro ⟨a, b, d⟩
        refine ⟨a, ?_, d⟩
        have : e ≠ (c : Int) := fun he => d (by rw [he]; exact h)
        omega
    · rw [planF_put h]
      refine ⟨insF_sorted h1 (fun e he => ((h2 e).1 he).2.1), fun e => ?_⟩
      rw [mem_insF, h2 e]
      constructor
      · rintro (rfl | ⟨a, b, d⟩)
        · exact ⟨by omega, by omega, h⟩
        · exact ⟨a, by omega, d⟩
      · rintro ⟨a, b, d⟩
        by_cases he : e = (c : Int)
        · exact .inl he
        · exact .inr ⟨a, by omega, d⟩
/-- Those taken out weigh nothing. -/
def zer (L : List Int) (ds : List Int) : List Int := ds.foldl (fun s e => s.set e.toNat 0) L
theorem zer_snoc (L ds : List Int) (e : Int) : zer L (ds ++ [e]) = (zer L ds).set e.toNat 0 := by simp [zer, List.foldl_append]
theorem zer_length (ds : List Int) : ∀ L, (zer L ds).length = L.length := by
  induction ds with
  | nil => intro L; rfl
  | cons d r ih => intro L; show (zer (L.set d.toNat 0) r).length = _; rw [ih]; simp
theorem zer_val (ds : List Int) : ∀ (L : List Int) (i : Nat), (∀ d ∈ ds, 0 ≤ d) → (zer L ds).getD i 0 = if (i : Int) ∈ ds then 0 else L.getD i 0 := by
  induction ds with
  | nil => intro L i _; simp [zer]
  | cons d r ih =>
    intro L i h
    have hd := h d (by simp)
    show (zer (L.set d.toNat 0) r).getD i 0 = _
    rw [ih _ _ (fun e he => h e (List.mem_cons_of_mem _ he))]
    by_cases h1 : (i : Int) ∈ r
    · simp [h1]
    · by_cases h2 : (i : Int) = d
      · subst h2
        simp only [h1, if_false, List.mem_cons, true_or, if_true, Int.toNat_natCast]
        simp only [List.getD_eq_getElem?_getD, List.getElem?_set]
        by_cases hil : i < L.length <;> simp [hil]
      · have hne : d.toNat ≠ i := by omega
        simp [h1, h2, List.getD_eq_getElem?_getD, List.getElem?_set, hne]
/-- The first place below k of the greatest number above 0; -1 if there is none. -/
def topF (S : List Int) : Nat → Int
  | 0 => -1
  | k + 1 => if 0 < S.getD k 0 ∧ (topF S k < 0 ∨ S.getD (topF S k).toNat 0 < S.getD k 0) then k else topF S k
theorem topF_spec (S : List Int) : ∀ k : Nat, (topF S k = -1 ∧ ∀ i, i < k → S.getD i 0 ≤ 0) ∨
    ∃ b : Nat, b < k ∧ topF S k = b ∧ 0 < S.getD b 0 ∧ ∀ i, i < k → S.getD i 0 ≤ S.getD b 0 ∧ (i < b → S.getD i 0 < S.getD b 0) := by
  intro k
  induction k with
  | zero => exact .inl ⟨rfl, fun i h => by omega⟩
  | succ k ih =>
    rcases ih with ⟨h1, h2⟩ | ⟨b, hb, h1, h2, h3⟩
    · unfold topF
      rw [h1]
      by_cases hp : 0 < S.getD k 0
      · rw [if_pos ⟨hp, .inl (by omega)⟩]
        refine .inr ⟨k, by omega, rfl, hp, fun i hi => ?_⟩
        by_cases hik : i = k
        · subst hik; exact ⟨Int.le_refl _, by omega⟩
        · have := h2 i (by omega)
          exact ⟨by omega, fun _ => by omega⟩
      · rw [if_neg (fun h => hp h.1)]
        refine .inl ⟨rfl, fun i hi => ?_⟩
        by_cases hik : i = k
        · subst hik; omega
        · exact h2 i (by omega)
    · unfold topF
      rw [h1, Int.toNat_natCast]
      by_cases hp : S.getD b 0 < S.getD k 0
      · rw [if_pos ⟨by omega, .inr hp⟩]
        refine .inr ⟨k, by omega, rfl, by omega, fun i hi => ?_⟩
        by_cases hik : i = k
        · subst hik; exact ⟨Int.le_refl _, by omega⟩
        · have := h3 i (by omega)
          exact ⟨by omega, fun _ => by omega⟩
      · rw [if_neg (fun h => by rcases h.2 with h | h; omega; exact hp h)]
        refine .inr ⟨b, by omega, rfl, h2, fun i hi => ?_⟩
        by_cases hik : i = k
        · subst hik; exact ⟨by omega, fun h => by omega⟩
        · exact h3 i (by omega)
/-- What is taken out next is what stands next in the plan. -/
theorem topF_next {L : List Int} (hL : ∀ e, 0 ≤ val L e) {j : Nat} (hj : j < (planF L 12).length) : topF (zer L ((planF L 12).take j)) 12 = (planF L 12)[j] := by
  obtain ⟨hs, hm⟩ := planF_spec L 12
  generalize planF L 12 = P at hs hm hj ⊢
  have hpos : ∀ d ∈ P.take j, 0 ≤ d := fun d hd => ((hm d).1 (List.mem_of_mem_take hd)).1
  have hv := fun i => zer_val (P.take j) L i hpos
  obtain ⟨e0, e1, e2⟩ := (hm P[j]).1 (List.getElem_mem hj)
  have hnot : P[j] ∉ P.take j := by
    intro h
    obtain ⟨i, hi, he⟩ := List.mem_iff_getElem.1 h
    rw [List.length_take] at hi
    rw [List.getElem_take] at he
    have := List.pairwise_iff_getElem.1 hs i j (by omega) hj (by omega)
    rw [he] at this
    rcases this with h1 | h1 <;> omega
  have hej : (zer L (P.take j)).getD P[j].toNat 0 = val L P[j] := by
    rw [hv, if_neg (by rw [Int.toNat_of_nonneg e0]; exact hnot)]; rfl
  have hposj : 0 < val L P[j] := by have := hL P[j]; omega
  rcases topF_spec (zer L (P.take j)) 12 with ⟨h1, h2⟩ | ⟨b, hb, h1, h2, h3⟩
  · have := h2 P[j].toNat (by omega)
    rw [hej] at this
    omega
  · rw [h1]
    have hbn : (b : Int) ∉ P.take j := fun h => by
      have := hv b
      rw [if_pos h] at this
      omega
    have hbv : (zer L (P.take j)).getD b 0 = val L b := by rw [hv, if_neg hbn]; rfl
    have hbP : (b : Int) ∈ P := (hm b).2 ⟨by omega, by omega, by omega⟩
    have h4 := h3 P[j].toNat (by omega)
    rw [hej, hbv] at h4
    rw [← List.take_append_drop j P, List.mem_append] at hbP
    rcases hbP with h5 | h5
    · exact absurd h5 hbn
    · obtain ⟨i, hi, he⟩ := List.mem_iff_getElem.1 h5
      rw [List.length_drop] at hi
      rw [List.getElem_drop] at he
      by_cases hi0 : i = 0
      · subst hi0
        simpa using he.symm
      · have := List.pairwise_iff_getElem.1 hs j (j + i) hj (by omega) (by omega)
        rw [he] at this
        rcases this with h6 | ⟨h6, h7⟩
        · omega
        · have := h4.2 (by omega)
          omega
theorem topF_end {L : List Int} (hL : ∀ e, 0 ≤ val L e) {j : Nat} (hj : (planF L 12).length ≤ j) : topF (zer L ((planF L 12).take j)) 12 = -1 := by
  obtain ⟨hs, hm⟩ := planF_spec L 12
  generalize planF L 12 = P at hs hm hj ⊢
  rw [List.take_of_length_le hj]
  have hpos : ∀ d ∈ P, 0 ≤ d := fun d hd => ((hm d).1 hd).1
  have hv := fun i => zer_val P L i hpos
  rcases topF_spec (zer L P) 12 with ⟨h1, h2⟩ | ⟨b, hb, h1, h2, h3⟩
  · exact h1
  · rw [hv b] at h2
    split at h2
    · omega
    · rename_i hn
      exact absurd ((hm b).2 ⟨by omega, by omega, by have : val L b = L.getD b 0 := rfl; omega⟩) hn
end Go.Proofs.Ytcplfempajfcdaa
