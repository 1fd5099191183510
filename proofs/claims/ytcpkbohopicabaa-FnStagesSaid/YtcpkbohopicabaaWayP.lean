/- The plain law of WayAround: the least number of steps, by layers and by a queue. -/
import Derived.Test.YtcpkbohopicabaaSpots
namespace Go.Proofs.Ytcpkbohopicabaa
set_option linter.unusedSimpArgs false
set_option linter.unusedVariables false

/-- On neighbouring squares (or on one). -/
def adj (p q : Sp) : Prop := (-1 ≤ q.1 - p.1 ∧ q.1 - p.1 ≤ 1) ∧ (-1 ≤ q.2 - p.2 ∧ q.2 - p.2 ≤ 1)
/-- Reached within n steps. -/
def Rch (F : Sp → Prop) (s : Sp) : Nat → Sp → Prop
  | 0, q => q = s
  | n + 1, q => Rch F s n q ∨ (F q ∧ ∃ p, Rch F s n p ∧ adj p q)
theorem Rch.mono {F : Sp → Prop} {s q : Sp} {n : Nat} (h : Rch F s n q) : ∀ {m : Nat}, n ≤ m → Rch F s m q := by
  intro m hm
  induction m with
  | zero => obtain rfl : n = 0 := by omega
            exact h
  | succ m ih =>
    by_cases hn : n = m + 1
    · subst hn; exact h
    · exact .inl (ih (by omega))
/-- The least number of steps; -1 if there is no way. -/
def IsWay (F : Sp → Prop) (s t : Sp) (a : Int) : Prop := (∃ n : Nat, a = n ∧ Rch F s n t ∧ ∀ m, m < n → ¬ Rch F s m t) ∨ (a = -1 ∧ ∀ n, ¬ Rch F s n t)
theorem IsWay.one {F : Sp → Prop} {s t : Sp} {a b : Int} (ha : IsWay F s t a) (hb : IsWay F s t b) : a = b := by
  rcases ha with ⟨n, rfl, h1, h2⟩ | ⟨rfl, h1⟩ <;> rcases hb with ⟨m, rfl, h3, h4⟩ | ⟨rfl, h3⟩
  · rcases Nat.lt_trichotomy n m with h | h | h
    · exact absurd h1 (h4 _ h)
    · rw [h]
    · exact absurd h3 (h2 _ h)
  · exact absurd h1 (h3 _)
  · exact absurd h3 (h1 _)
  · rfl
/-- Numbers below N, none twice, are no more than N. -/
theorem nodup_bound : ∀ (N : Nat) (L : List Nat), L.Nodup → (∀ x ∈ L, x < N) → L.length ≤ N := by
  intro N
  induction N with
  | zero =>
    intro L _ h
    cases L with
    | nil => simp
    | cons x r => have := h x (by simp); omega
  | succ N ih =>
    intro L hn h
    by_cases hm : N ∈ L
    · have h1 := ih (L.erase N) (hn.erase N) (fun x hx => by
        have h2 := (hn.mem_erase_iff).1 hx
        have h3 := h x h2.2
        have := h2.1
        omega)
      rw [List.length_erase_of_mem hm] at h1
      have : 0 < L.length := List.length_pos_of_mem hm
      omega
    · have h1 := ih L hn (fun x hx => by
        have h3 := h x hx
        have : x ≠ N := fun e => hm (e ▸ hx)
        omega)
      omega
theorem spotB_iff {wd ht : Int} {q : Sp} : spotB wd ht q = true ↔ (0 ≤ q.1 ∧ q.1 ≤ wd - 1) ∧ (0 ≤ q.2 ∧ q.2 ≤ ht - 1) := by
  unfold spotB
  rw [Bool.and_eq_true, inB_true, inB_true]
def idn (wd : Int) (q : Sp) : Nat := (q.2 * wd + q.1).toNat
theorem idn_cast {wd ht : Int} {q : Sp} (h : spotB wd ht q = true) : ((idn wd q : Nat) : Int) = q.2 * wd + q.1 := by
  obtain ⟨⟨h1, h2⟩, h3, h4⟩ := spotB_iff.1 h
  have : 0 ≤ q.2 * wd := Int.mul_nonneg h3 (by omega)
  unfold idn
  omega
theorem idn_lt {wd ht : Int} {q : Sp} (h : spotB wd ht q = true) : idn wd q < (wd * ht).toNat := by
  have hc := idn_cast h
  obtain ⟨⟨h1, h2⟩, h3, h4⟩ := spotB_iff.1 h
  have h5 : q.2 * wd ≤ (ht - 1) * wd := Int.mul_le_mul_of_nonneg_right h4 (by omega)
  rw [Int.sub_mul, Int.one_mul, Int.mul_comm ht wd] at h5
  omega
theorem idn_mod {wd ht : Int} {q : Sp} (h : spotB wd ht q = true) : (q.2 * wd + q.1) % wd = q.1 ∧ (q.2 * wd + q.1) / wd = q.2 := by
  obtain ⟨⟨h1, h2⟩, h3, h4⟩ := spotB_iff.1 h
  have hm : (q.2 * wd + q.1) % wd = q.1 := by
    rw [Int.add_comm, Int.add_mul_emod_self_right]
    exact Int.emod_eq_of_lt h1 (by omega)
  have hd : (q.2 * wd + q.1) / wd = q.2 := by
    rw [Int.add_comm, Int.add_mul_ediv_right _ _ (by omega : wd ≠ 0), Int.ediv_eq_zero_of_lt h1 (by omega)]
    omega
  exact ⟨hm, hd⟩
theorem idn_inj {wd ht : Int} {p q : Sp} (hp : spotB wd ht p = true) (hq : spotB wd ht q = true) (h : idn wd p = idn wd q) : p = q := by
  have h1 := idn_cast hp
  have h2 := idn_cast hq
  rw [h, h2] at h1
  obtain ⟨m1, d1⟩ := idn_mod hp
  obtain ⟨m2, d2⟩ := idn_mod hq
  rw [← h1, m2] at m1
  rw [← h1, d2] at d1
  exact Prod.ext m1.symm d1.symm
theorem nodup_map {wd ht : Int} : ∀ {L : List Sp}, L.Nodup → (∀ q ∈ L, spotB wd ht q = true) → (L.map (idn wd)).Nodup := by
  intro L
  induction L with
  | nil => intro _ _; simp
  | cons x r ih =>
    intro hn hg
    rw [List.nodup_cons] at hn
    rw [List.map_cons, List.nodup_cons]
    refine ⟨fun hx => ?_, ih hn.2 fun q hq => hg q (List.mem_cons_of_mem _ hq)⟩
    obtain ⟨y, hy, he⟩ := List.mem_map.1 hx
    exact hn.1 (idn_inj (hg y (List.mem_cons_of_mem _ hy)) (hg x (by simp)) he ▸ hy)
theorem grid_len {wd ht : Int} {L : List Sp} (hn : L.Nodup) (hg : ∀ q ∈ L, spotB wd ht q = true) : L.length ≤ (wd * ht).toNat := by
  have h := nodup_bound (wd * ht).toNat (L.map (idn wd)) (nodup_map hn hg) (fun x hx => by
    obtain ⟨y, hy, rfl⟩ := List.mem_map.1 hx
    exact idn_lt (hg y hy))
  simpa using h
theorem grid_max {wd ht : Int} (hw : 1 ≤ wd ∧ wd ≤ 12) (hh : 1 ≤ ht ∧ ht ≤ 12) : (1 ≤ wd * ht ∧ wd * ht ≤ 144) ∧ (wd * ht).toNat ≤ 144 := by
  have h1 : wd * ht ≤ 12 * 12 := Int.mul_le_mul hw.2 hh.2 (by omega) (by omega)
  have h2 : 1 * 1 ≤ wd * ht := Int.mul_le_mul hw.1 hh.1 (by omega) (by omega)
  omega
theorem grid_144 {wd ht : Int} {L : List Sp} (hw : 1 ≤ wd ∧ wd ≤ 12) (hh : 1 ≤ ht ∧ ht ≤ 12) (hn : L.Nodup) (hg : ∀ q ∈ L, spotB wd ht q = true) : L.length ≤ 144 :=
  Nat.le_trans (grid_len hn hg) (grid_max hw hh).2

/-! ### The program's way: layer by layer -/
/-- The neighbour of x that the m-th round looks at: dx = m / 3 - 1, dy = m % 3 - 1. -/
def nbI (x : Sp) (m : Nat) : Sp := (x.1 + (m / 3 : Nat) - 1, x.2 + (m % 3 : Nat) - 1)
def nbS (x : Sp) (m : Nat) : Sp := (x.1 + (m % 3 : Nat) - 1, x.2 + (m / 3 : Nat) - 1)
theorem nbI_adj {x q : Sp} : adj x q ↔ ∃ m, m < 9 ∧ q = nbI x m := by
  constructor
  · rintro ⟨⟨h1, h2⟩, h3, h4⟩
    refine ⟨((q.1 - x.1 + 1) * 3 + (q.2 - x.2 + 1)).toNat, by omega, ?_⟩
    unfold nbI
    exact Prod.ext (by dsimp only; omega) (by dsimp only; omega)
  · rintro ⟨m, hm, rfl⟩
    unfold nbI adj
    dsimp only
    omega
theorem nbS_adj {x q : Sp} : adj x q ↔ ∃ m, m < 9 ∧ q = nbS x m := by
  constructor
  · rintro ⟨⟨h1, h2⟩, h3, h4⟩
    refine ⟨((q.2 - x.2 + 1) * 3 + (q.1 - x.1 + 1)).toNat, by omega, ?_⟩
    unfold nbS
    exact Prod.ext (by dsimp only; omega) (by dsimp only; omega)
  · rintro ⟨m, hm, rfl⟩
    unfold nbS adj
    dsimp only
    omega
structure Lay (wd ht : Int) (F : Sp → Prop) (s t : Sp) (n : Nat) (seen now : List Sp) : Prop where
  sn : ∀ q, q ∈ seen ↔ Rch F s n q
  nw : ∀ q, q ∈ now ↔ Rch F s n q ∧ ∀ m, m < n → ¬ Rch F s m q
  no : ∀ m, m < n → ¬ Rch F s m t
  nodup : seen.Nodup
  grid : ∀ q ∈ seen, spotB wd ht q = true
  cnt : n ≤ seen.length ∧ (now ≠ [] → n < seen.length)
theorem Lay.start {wd ht : Int} {F : Sp → Prop} {s t : Sp} (hs : spotB wd ht s = true) : Lay wd ht F s t 0 [s] [s] := by
  refine ⟨fun q => by simp [Rch], fun q => by simp [Rch], fun m hm => by omega, by simp, fun q hq => ?_, by simp⟩
  simp at hq
  subst hq
  exact hs
/-- Mid-way: the first i of the layer are done, of the i-th the first j neighbours. -/
structure Scan (wd ht : Int) (F : Sp → Prop) (s t : Sp) (n : Nat) (now : List Sp) (i j : Nat) (seen next : List Sp) : Prop where
  nw : ∀ q, q ∈ now ↔ Rch F s n q ∧ ∀ m, m < n → ¬ Rch F s m q
  no : ∀ m, m < n → ¬ Rch F s m t
  nt : ∀ q ∈ now.take i, q ≠ t
  sn : ∀ q, q ∈ seen ↔ Rch F s n q ∨ q ∈ next
  nx : ∀ q, q ∈ next ↔ F q ∧ ¬ Rch F s n q ∧ ((∃ p ∈ now.take i, adj p q) ∨ ∃ m, m < j ∧ ∃ x, now[i]? = some x ∧ q = nbI x m)
  nodup : seen.Nodup
  grid : ∀ q ∈ seen, spotB wd ht q = true
  cnt : n + next.length < seen.length
theorem Lay.scan {wd ht : Int} {F : Sp → Prop} {s t : Sp} {n : Nat} {seen now : List Sp} (h : Lay wd ht F s t n seen now) (hne : now ≠ []) : Scan wd ht F s t n now 0 0 seen [] := by
  refine ⟨h.nw, h.no, by simp, fun q => by simp [h.sn q], fun q => by simp, h.nodup, h.grid, ?_⟩
  have := h.cnt.2 hne
  simpa using this
theorem Scan.hit {wd ht : Int} {F : Sp → Prop} {s t : Sp} {n : Nat} {seen now next : List Sp} {i j : Nat} (h : Scan wd ht F s t n now i j seen next) (hx : now[i]? = some t) : IsWay F s t n :=
  .inl ⟨n, rfl, ((h.nw t).1 (List.mem_of_getElem? hx)).1, h.no⟩
theorem Scan.skip {wd ht : Int} {F : Sp → Prop} {s t x : Sp} {n : Nat} {seen now next : List Sp} {i j : Nat} (h : Scan wd ht F s t n now i j seen next) (hx : now[i]? = some x)
    (hc : F (nbI x j) → nbI x j ∈ seen) : Scan wd ht F s t n now i (j + 1) seen next := by
  refine ⟨h.nw, h.no, h.nt, h.sn, fun q => ?_, h.nodup, h.grid, h.cnt⟩
  constructor
  · intro hq
    obtain ⟨h1, h2, h3⟩ := (h.nx q).1 hq
    refine ⟨h1, h2, ?_⟩
    rcases h3 with h3 | ⟨m, hm, h3⟩
    · exact .inl h3
    · exact .inr ⟨m, by omega, h3⟩
  · rintro ⟨h1, h2, h3⟩
    rcases h3 with h3 | ⟨m, hm, y, hy, h3⟩
    · exact (h.nx q).2 ⟨h1, h2, .inl h3⟩
    · by_cases hj : m = j
      · subst hj
        rw [hx] at hy
        cases hy
        subst h3
        rcases (h.sn _).1 (hc h1) with h4 | h4
        · exact absurd h4 h2
        · exact h4
      · exact (h.nx q).2 ⟨h1, h2, .inr ⟨m, by omega, y, hy, h3⟩⟩
theorem Scan.push {wd ht : Int} {F : Sp → Prop} {s t x : Sp} {n : Nat} {seen now next : List Sp} {i j : Nat} (h : Scan wd ht F s t n now i j seen next) (hx : now[i]? = some x)
    (hg : spotB wd ht (nbI x j) = true) (hf : F (nbI x j)) (hs : nbI x j ∉ seen) : Scan wd ht F s t n now i (j + 1) (seen ++ [nbI x j]) (next ++ [nbI x j]) := by
  have hnR : ¬ Rch F s n (nbI x j) := fun h1 => hs ((h.sn _).2 (.inl h1))
  refine ⟨h.nw, h.no, h.nt, fun q => ?_, fun q => ?_, ?_, fun q hq => ?_, ?_⟩
  · rw [List.mem_append, List.mem_append, h.sn q]
    constructor
    · rintro ((h1 | h1) | h1)
      · exact .inl h1
      · exact .inr (.inl h1)
      · exact .inr (.inr h1)
    · rintro (h1 | (h1 | h1))
      · exact .inl (.inl h1)
      · exact .inl (.inr h1)
      · exact .inr h1
  · rw [List.mem_append, List.mem_singleton]
    constructor
    · rintro (hq | rfl)
      · obtain ⟨h1, h2, h3⟩ := (h.nx q).1 hq
        refine ⟨h1, h2, ?_⟩
        rcases h3 with h3 | ⟨m, hm, h3⟩
        · exact .inl h3
        · exact .inr ⟨m, by omega, h3⟩
      · exact ⟨hf, hnR, .inr ⟨j, by omega, x, hx, rfl⟩⟩
    · rintro ⟨h1, h2, h3⟩
      rcases h3 with h3 | ⟨m, hm, y, hy, h3⟩
      · exact .inl ((h.nx q).2 ⟨h1, h2, .inl h3⟩)
      · by_cases hj : m = j
        · subst hj
          rw [hx] at hy
          cases hy
          exact .inr h3
        · exact .inl ((h.nx q).2 ⟨h1, h2, .inr ⟨m, by omega, y, hy, h3⟩⟩)
  · rw [List.nodup_append]
    refine ⟨h.nodup, by simp, ?_⟩
    intro a ha b hb e
    rw [List.mem_singleton] at hb
    subst hb
    subst e
    exact hs ha
  · rcases List.mem_append.1 hq with hq | hq
    · exact h.grid q hq
    · rw [List.mem_singleton] at hq
      subst hq
      exact hg
  · have := h.cnt
    rw [List.length_append, List.length_append]
    simp only [List.length_singleton]
    omega
theorem Scan.step {wd ht : Int} {F : Sp → Prop} {s t x : Sp} {n : Nat} {seen now next : List Sp} {i : Nat} (h : Scan wd ht F s t n now i 9 seen next) (hx : now[i]? = some x) (hxt : x ≠ t) :
    Scan wd ht F s t n now (i + 1) 0 seen next := by
  have htk : now.take (i + 1) = now.take i ++ [x] := by
    have hk := (List.getElem?_eq_some_iff.1 hx).1
    rw [List.take_succ_eq_append_getElem hk]
    congr 1
    simp [(List.getElem?_eq_some_iff.1 hx).2]
  refine ⟨h.nw, h.no, fun q hq => ?_, h.sn, fun q => ?_, h.nodup, h.grid, h.cnt⟩
  · rw [htk, List.mem_append, List.mem_singleton] at hq
    rcases hq with hq | rfl
    · exact h.nt q hq
    · exact hxt
  · rw [h.nx q, htk]
    constructor
    · rintro ⟨h1, h2, h3⟩
      refine ⟨h1, h2, .inl ?_⟩
      rcases h3 with ⟨p, hp, h3⟩ | ⟨m, hm, y, hy, h3⟩
      · exact ⟨p, List.mem_append.2 (.inl hp), h3⟩
      · rw [hx] at hy
        cases hy
        exact ⟨x, by simp, nbI_adj.2 ⟨m, hm, h3⟩⟩
    · rintro ⟨h1, h2, h3⟩
      refine ⟨h1, h2, ?_⟩
      rcases h3 with ⟨p, hp, h3⟩ | ⟨m, hm, _⟩
      · rcases List.mem_append.1 hp with hp | hp
        · exact .inl ⟨p, hp, h3⟩
        · rw [List.mem_singleton] at hp
          subst hp
          obtain ⟨m, hm, h4⟩ := nbI_adj.1 h3
          exact .inr ⟨m, hm, _, hx, h4⟩
      · omega
theorem Scan.layer {wd ht : Int} {F : Sp → Prop} {s t : Sp} {n : Nat} {seen now next : List Sp} {i : Nat} (h : Scan wd ht F s t n now i 0 seen next) (hi : now.length ≤ i) : Lay wd ht F s t (n + 1) seen next := by
  have htk : now.take i = now := List.take_of_length_le hi
  have hnx : ∀ q, q ∈ next ↔ F q ∧ ¬ Rch F s n q ∧ ∃ p ∈ now, adj p q := by
    intro q
    rw [h.nx q, htk]
    constructor
    · rintro ⟨h1, h2, h3⟩
      rcases h3 with h3 | ⟨m, hm, _⟩
      · exact ⟨h1, h2, h3⟩
      · omega
    · rintro ⟨h1, h2, h3⟩
      exact ⟨h1, h2, .inl h3⟩
  have hR : ∀ q, Rch F s (n + 1) q ↔ Rch F s n q ∨ q ∈ next := by
    intro q
    constructor
    · intro hq
      by_cases h0 : Rch F s n q
      · exact .inl h0
      · rcases hq with hq | ⟨hf, p, hp, ha⟩
        · exact absurd hq h0
        · refine .inr ((hnx q).2 ⟨hf, h0, p, (h.nw p).2 ⟨hp, fun m hm hm2 => h0 ?_⟩, ha⟩)
          have h5 : Rch F s (m + 1) q := .inr ⟨hf, p, hm2, ha⟩
          exact h5.mono (by omega)
    · rintro (hq | hq)
      · exact .inl hq
      · obtain ⟨h1, _, p, hp, ha⟩ := (hnx q).1 hq
        exact .inr ⟨h1, p, ((h.nw p).1 hp).1, ha⟩
  refine ⟨fun q => by rw [h.sn q, hR q], fun q => ?_, fun m hm hm2 => ?_, h.nodup, h.grid, ?_⟩
  · constructor
    · intro hq
      exact ⟨(hR q).2 (.inr hq), fun m hm hm2 => ((hnx q).1 hq).2.1 (hm2.mono (by omega))⟩
    · rintro ⟨h1, h2⟩
      rcases (hR q).1 h1 with h3 | h3
      · exact absurd h3 (h2 n (by omega))
      · exact h3
  · by_cases hmn : m < n
    · exact h.no m hmn hm2
    · obtain rfl : m = n := by omega
      have h1 : t ∈ now := (h.nw t).2 ⟨hm2, h.no⟩
      exact h.nt t (by rw [htk]; exact h1) rfl
  · have h1 := h.cnt
    refine ⟨by omega, fun hne => ?_⟩
    have : 0 < next.length := List.length_pos_iff.2 hne
    omega
/-- No layer left: there is no way. -/
theorem Lay.none {wd ht : Int} {F : Sp → Prop} {s t : Sp} {n : Nat} {seen : List Sp} (h : Lay wd ht F s t n seen []) : IsWay F s t (-1) := by
  have hc : ∀ q, Rch F s n q → ∃ m, m < n ∧ Rch F s m q := by
    intro q hq
    have h1 := mt (h.nw q).2 (by simp)
    rw [Classical.not_and_iff_not_or_not] at h1
    rcases h1 with h1 | h1
    · exact absurd hq h1
    · exact Classical.byContradiction fun h2 => h1 fun m hm hm2 => h2 ⟨m, hm, hm2⟩
  have hall : ∀ k q, Rch F s (n + k) q → Rch F s n q := by
    intro k
    induction k with
    | zero => intro q hq; exact hq
    | succ k ih =>
      intro q hq
      rcases hq with hq | ⟨hf, p, hp, ha⟩
      · exact ih q hq
      · obtain ⟨m, hm, h1⟩ := hc p (ih p hp)
        have h5 : Rch F s (m + 1) q := .inr ⟨hf, p, h1, ha⟩
        exact h5.mono (by omega)
  refine .inr ⟨rfl, fun k hk => ?_⟩
  obtain ⟨m, hm, h1⟩ := hc t (hall k t (hk.mono (by omega)))
  exact h.no m hm h1

/-! ### The statement's way: a queue of squares and their steps -/
/-- Another puppet's square, of the first i. -/
def isO (zs : List Sp) (k i : Nat) (q : Sp) : Prop := ∃ j, j < i ∧ j ≠ k ∧ zs[j]? = some q
def freeS (wd ht : Int) (zs : List Sp) (k : Nat) (q : Sp) : Prop := spotB wd ht q = true ∧ ¬ isO zs k zs.length q
def sv (wd : Int) (st : List Int) (q : Sp) : Int := st.getD (idn wd q) 0
theorem sv_set {wd ht : Int} {st : List Int} (hl : st.length = (wd * ht).toNat) {p q : Sp} (hp : spotB wd ht p = true) (hq : spotB wd ht q = true) (v : Int) :
    sv wd (st.set (idn wd p) v) q = if q = p then v else sv wd st q := by
  unfold sv
  rw [List.getD_eq_getElem?_getD, List.getD_eq_getElem?_getD, List.getElem?_set]
  by_cases h : q = p
  · subst h
    rw [if_pos rfl, if_pos rfl, if_pos (by rw [hl]; exact idn_lt hp)]
    rfl
  · rw [if_neg (fun e => h (idn_inj hp hq e).symm), if_neg h]
/-- While the others are laid: the first i are. -/
def Laid (wd ht : Int) (zs : List Sp) (k i : Nat) (st : List Int) : Prop :=
  st.length = (wd * ht).toNat ∧ ∀ q, spotB wd ht q = true → (isO zs k i q ∧ sv wd st q = -2) ∨ (¬ isO zs k i q ∧ sv wd st q = -1)
theorem Laid.start {wd ht : Int} {zs : List Sp} {k : Nat} {st : List Int} (hl : st.length = (wd * ht).toNat) (h : ∀ i, i < st.length → st.getD i 0 = -1) : Laid wd ht zs k 0 st :=
  ⟨hl, fun q hq => .inr ⟨fun ⟨j, hj, _⟩ => by omega, h _ (by rw [hl]; exact idn_lt hq)⟩⟩
theorem Laid.self {wd ht : Int} {zs : List Sp} {k : Nat} {st : List Int} (h : Laid wd ht zs k k st) : Laid wd ht zs k (k + 1) st := by
  refine ⟨h.1, fun q hq => ?_⟩
  have he : isO zs k (k + 1) q ↔ isO zs k k q := by
    constructor
    · rintro ⟨j, hj, hk, hx⟩
      exact ⟨j, by omega, hk, hx⟩
    · rintro ⟨j, hj, hk, hx⟩
      exact ⟨j, by omega, hk, hx⟩
  rw [he]
  exact h.2 q hq
theorem Laid.put {wd ht : Int} {zs : List Sp} {k i : Nat} {st : List Int} (h : Laid wd ht zs k i st) (hk : i ≠ k) {x : Sp} (hx : zs[i]? = some x) (hg : spotB wd ht x = true) :
    Laid wd ht zs k (i + 1) (st.set (idn wd x) (-2)) := by
  refine ⟨by rw [List.length_set]; exact h.1, fun q hq => ?_⟩
  rw [sv_set h.1 hg hq]
  by_cases he : q = x
  · subst he
    rw [if_pos rfl]
    exact .inl ⟨⟨i, by omega, hk, hx⟩, rfl⟩
  · rw [if_neg he]
    have h2 : isO zs k (i + 1) q ↔ isO zs k i q := by
      constructor
      · rintro ⟨j, hj, hjk, hy⟩
        refine ⟨j, ?_, hjk, hy⟩
        by_cases hji : j = i
        · subst hji
          rw [hx] at hy
          cases hy
          exact absurd rfl he
        · omega
      · rintro ⟨j, hj, hjk, hy⟩
        exact ⟨j, by omega, hjk, hy⟩
    rw [h2]
    exact h.2 q hq
structure Que (wd ht : Int) (zs : List Sp) (k : Nat) (s : Sp) (st : List Int) (L : List Sp) (i m : Nat) : Prop where
  len : st.length = (wd * ht).toNat
  nodup : L.Nodup
  grid : ∀ q ∈ L, spotB wd ht q = true
  val : ∀ q, spotB wd ht q = true → (q ∈ L ∧ 0 ≤ sv wd st q) ∨ (q ∉ L ∧ ((isO zs k zs.length q ∧ sv wd st q = -2) ∨ (¬ isO zs k zs.length q ∧ sv wd st q = -1)))
  rch : ∀ q ∈ L, Rch (freeS wd ht zs k) s (sv wd st q).toNat q
  pos : ∀ (j : Nat) (x : Sp), L[j]? = some x → sv wd st x ≤ j
  up : L.Pairwise fun a b => sv wd st a ≤ sv wd st b
  near : ∀ x, L[i]? = some x → ∀ q ∈ L, sv wd st q ≤ sv wd st x + 1
  old : ∀ (j : Nat) (x : Sp), j < i → L[j]? = some x → ∀ q, freeS wd ht zs k q → adj x q → q ∈ L ∧ sv wd st q ≤ sv wd st x + 1
  cur : ∀ x, L[i]? = some x → ∀ j, j < m → freeS wd ht zs k (nbS x j) → nbS x j ∈ L ∧ sv wd st (nbS x j) ≤ sv wd st x + 1
  start : s ∈ L ∧ sv wd st s = 0
theorem Laid.que {wd ht : Int} {zs : List Sp} {k : Nat} {st : List Int} (h : Laid wd ht zs k zs.length st) {s : Sp} (hg : spotB wd ht s = true) :
    Que wd ht zs k s (st.set (idn wd s) 0) [s] 0 0 := by
  have hs : sv wd (st.set (idn wd s) 0) s = 0 := by rw [sv_set h.1 hg hg, if_pos rfl]
  have h1 : ∀ q ∈ [s], q = s := fun q hq => by simpa using hq
  have h2 : ∀ j x, [s][j]? = some x → x = s := fun j x hx => h1 x (List.mem_of_getElem? hx)
  refine ⟨by rw [List.length_set]; exact h.1, by simp, fun q hq => (h1 q hq) ▸ hg, fun q hq => ?_, fun q hq => ?_, fun j x hx => ?_, by simp, fun x hx q hq => ?_, fun j x hj => by omega, fun x hx j hj => by omega, by simp, hs⟩
  · by_cases he : q = s
    · subst he
      exact .inl ⟨by simp, by omega⟩
    · rw [sv_set h.1 hg hq, if_neg he]
      exact .inr ⟨by simpa using he, h.2 q hq⟩
  · obtain rfl := h1 q hq
    rw [hs]
    rfl
  · obtain rfl := h2 j x hx
    omega
  · obtain rfl := h1 q hq
    obtain rfl := h2 _ x hx
    omega
theorem Que.skip {wd ht : Int} {zs : List Sp} {k : Nat} {s x : Sp} {st : List Int} {L : List Sp} {i m : Nat} (h : Que wd ht zs k s st L i m) (hx : L[i]? = some x)
    (hc : spotB wd ht (nbS x m) = true → sv wd st (nbS x m) ≠ -1) : Que wd ht zs k s st L i (m + 1) := by
  refine ⟨h.len, h.nodup, h.grid, h.val, h.rch, h.pos, h.up, h.near, h.old, fun y hy j hj hf => ?_, h.start⟩
  by_cases hjm : j = m
  · subst hjm
    rw [hx] at hy
    cases hy
    rcases h.val _ hf.1 with ⟨h1, _⟩ | ⟨_, ⟨h1, _⟩ | ⟨_, h1⟩⟩
    · exact ⟨h1, h.near x hx _ h1⟩
    · exact absurd h1 hf.2
    · exact absurd h1 (hc hf.1)
  · exact h.cur y hy j (by omega) hf
theorem Que.push {wd ht : Int} {zs : List Sp} {k : Nat} {s x : Sp} {st : List Int} {L : List Sp} {i m : Nat} (h : Que wd ht zs k s st L i m) (hx : L[i]? = some x) (hm : m < 9)
    (hg : spotB wd ht (nbS x m) = true) (hv : sv wd st (nbS x m) = -1) :
    Que wd ht zs k s (st.set (idn wd (nbS x m)) (sv wd st x + 1)) (L ++ [nbS x m]) i (m + 1) := by
  generalize hq : nbS x m = q at hg hv ⊢
  have hxL : x ∈ L := List.mem_of_getElem? hx
  have hxv : 0 ≤ sv wd st x := by
    rcases h.val x (h.grid x hxL) with ⟨_, h1⟩ | ⟨h1, _⟩
    · exact h1
    · exact absurd hxL h1
  have hqL : q ∉ L ∧ ¬ isO zs k zs.length q := by
    rcases h.val q hg with ⟨_, h1⟩ | ⟨h0, ⟨_, h1⟩ | ⟨h2, _⟩⟩
    · omega
    · omega
    · exact ⟨h0, h2⟩
  have hne : ∀ p ∈ L, p ≠ q := fun p hp e => hqL.1 (e ▸ hp)
  have hsame : ∀ p ∈ L, sv wd (st.set (idn wd q) (sv wd st x + 1)) p = sv wd st p := fun p hp => by rw [sv_set h.len hg (h.grid p hp), if_neg (hne p hp)]
  have hnew : sv wd (st.set (idn wd q) (sv wd st x + 1)) q = sv wd st x + 1 := by rw [sv_set h.len hg hg, if_pos rfl]
  have hiL : i < L.length := (List.getElem?_eq_some_iff.1 hx).1
  have hget : ∀ j y, (L ++ [q])[j]? = some y → (j < L.length ∧ L[j]? = some y) ∨ (j = L.length ∧ y = q) := by
    intro j y hy
    by_cases hj : j < L.length
    · rw [List.getElem?_append_left hj] at hy
      exact .inl ⟨hj, hy⟩
    · rw [List.getElem?_append_right (by omega)] at hy
      have h1 := (List.getElem?_eq_some_iff.1 hy).1
      simp only [List.length_singleton] at h1
      have h2 : j - L.length = 0 := by omega
      rw [h2] at hy
      exact .inr ⟨by omega, by simpa using hy.symm⟩
  have hgi : ∀ y, (L ++ [q])[i]? = some y → y = x := fun y hy => by
    rcases hget i y hy with ⟨_, h1⟩ | ⟨h1, _⟩
    · rw [hx] at h1
      cases h1
      rfl
    · omega
  have hadj : adj x q := nbS_adj.2 ⟨m, hm, hq.symm⟩
  have hf : freeS wd ht zs k q := ⟨hg, hqL.2⟩
  refine ⟨by rw [List.length_set]; exact h.len, ?_, fun p hp => ?_, fun p hp => ?_, fun p hp => ?_, fun j y hy => ?_, ?_, fun y hy p hp => ?_, fun j y hj hy p hpf hpa => ?_, fun y hy j hj hpf => ?_, ?_⟩
  · rw [List.nodup_append]
    refine ⟨h.nodup, by simp, fun a ha b hb e => ?_⟩
    rw [List.mem_singleton] at hb
    subst hb
    exact hne a ha e
  · rcases List.mem_append.1 hp with hp | hp
    · exact h.grid p hp
    · rw [List.mem_singleton] at hp
      exact hp ▸ hg
  · by_cases he : p = q
    · subst he
      rw [hnew]
      exact .inl ⟨by simp, by omega⟩
    · rw [sv_set h.len hg hp, if_neg he]
      rcases h.val p hp with ⟨h1, h2⟩ | ⟨h1, h2⟩
      · exact .inl ⟨List.mem_append.2 (.inl h1), h2⟩
      · refine .inr ⟨fun h3 => ?_, h2⟩
        rcases List.mem_append.1 h3 with h3 | h3
        · exact h1 h3
        · exact he (by simpa using h3)
  · rcases List.mem_append.1 hp with hp | hp
    · rw [hsame p hp]
      exact h.rch p hp
    · rw [List.mem_singleton] at hp
      subst hp
      rw [hnew, show (sv wd st x + 1).toNat = (sv wd st x).toNat + 1 by omega]
      exact .inr ⟨hf, x, h.rch x hxL, hadj⟩
  · rcases hget j y hy with ⟨_, h1⟩ | ⟨h1, rfl⟩
    · rw [hsame y (List.mem_of_getElem? h1)]
      exact h.pos j y h1
    · rw [hnew]
      have := h.pos i x hx
      omega
  · rw [List.pairwise_append]
    refine ⟨?_, by simp, fun a ha b hb => ?_⟩
    · refine h.up.imp_of_mem fun ha hb hab => ?_
      rw [hsame _ ha, hsame _ hb]
      exact hab
    · rw [List.mem_singleton] at hb
      subst hb
      rw [hsame a ha, hnew]
      exact h.near x hx a ha
  · obtain rfl := hgi y hy
    rw [hsame y hxL]
    rcases List.mem_append.1 hp with hp | hp
    · rw [hsame p hp]
      exact h.near y hx p hp
    · rw [List.mem_singleton] at hp
      subst hp
      rw [hnew]
      exact Int.le_refl _
  · rcases hget j y hy with ⟨_, h1⟩ | ⟨h1, _⟩
    · obtain ⟨h2, h3⟩ := h.old j y hj h1 p hpf hpa
      rw [hsame p h2, hsame y (List.mem_of_getElem? h1)]
      exact ⟨List.mem_append.2 (.inl h2), h3⟩
    · omega
  · obtain rfl := hgi y hy
    rw [hsame y hxL]
    by_cases hjm : j = m
    · subst hjm
      rw [hq, hnew]
      exact ⟨by simp, Int.le_refl _⟩
    · obtain ⟨h2, h3⟩ := h.cur y hx j (by omega) hpf
      rw [hsame _ h2]
      exact ⟨List.mem_append.2 (.inl h2), h3⟩
  · exact ⟨List.mem_append.2 (.inl h.start.1), by rw [hsame s h.start.1]; exact h.start.2⟩
theorem Que.step {wd ht : Int} {zs : List Sp} {k : Nat} {s x : Sp} {st : List Int} {L : List Sp} {i : Nat} (h : Que wd ht zs k s st L i 9) (hx : L[i]? = some x) : Que wd ht zs k s st L (i + 1) 0 := by
  refine ⟨h.len, h.nodup, h.grid, h.val, h.rch, h.pos, h.up, fun y hy q hq => ?_, fun j y hj hy q hf ha => ?_, fun y hy j hj => by omega, h.start⟩
  · have h1 := h.near x hx q hq
    have h2 : sv wd st x ≤ sv wd st y := by
      obtain ⟨ha, rfl⟩ := List.getElem?_eq_some_iff.1 hx
      obtain ⟨hb, rfl⟩ := List.getElem?_eq_some_iff.1 hy
      exact List.pairwise_iff_getElem.1 h.up i (i + 1) ha hb (by omega)
    omega
  · by_cases hji : j = i
    · subst hji
      rw [hx] at hy
      cases hy
      obtain ⟨m, hm, rfl⟩ := nbS_adj.1 ha
      exact h.cur x hx m hm hf
    · exact h.old j y (by omega) hy q hf ha
/-- The queue is done: the steps are the least. -/
theorem Que.answer {wd ht : Int} {zs : List Sp} {k : Nat} {s t : Sp} {st : List Int} {L : List Sp} {i : Nat} (h : Que wd ht zs k s st L i 0) (hi : L.length ≤ i) (ht' : spotB wd ht t = true) :
    IsWay (freeS wd ht zs k) s t (max (-1) (sv wd st t)) := by
  have hall : ∀ n q, Rch (freeS wd ht zs k) s n q → q ∈ L ∧ sv wd st q ≤ n := by
    intro n
    induction n with
    | zero => rintro q rfl; exact ⟨h.start.1, by rw [h.start.2]; exact Int.le_refl _⟩
    | succ n ih =>
      rintro q (hq | ⟨hf, p, hp, ha⟩)
      · obtain ⟨h1, h2⟩ := ih q hq
        exact ⟨h1, by omega⟩
      · obtain ⟨h1, h2⟩ := ih p hp
        obtain ⟨j, hj, hjp⟩ := List.mem_iff_getElem.1 h1
        obtain ⟨h3, h4⟩ := h.old j p (by omega) (List.getElem?_eq_some_iff.2 ⟨hj, hjp⟩) q hf ha
        exact ⟨h3, by omega⟩
  rcases h.val t ht' with ⟨h1, h2⟩ | ⟨h1, h2⟩
  · refine .inl ⟨(sv wd st t).toNat, by omega, h.rch t h1, fun m hm hm2 => ?_⟩
    have := (hall m t hm2).2
    omega
  · have h3 : sv wd st t = -2 ∨ sv wd st t = -1 := by
      rcases h2 with ⟨_, h2⟩ | ⟨_, h2⟩
      · exact .inl h2
      · exact .inr h2
    exact .inr ⟨by omega, fun n hn => h1 (hall n t hn).1⟩
theorem Que.len_le {wd ht : Int} {zs : List Sp} {k : Nat} {s : Sp} {st : List Int} {L : List Sp} {i m : Nat} (h : Que wd ht zs k s st L i m) (hw : 1 ≤ wd ∧ wd ≤ 12) (hh : 1 ≤ ht ∧ ht ≤ 12) : L.length ≤ 144 :=
  grid_144 hw hh h.nodup h.grid
theorem others_iff {zs : List Sp} {k : Nat} {q : Sp} : q ∈ zs.take k ++ zs.drop (k + 1) ↔ isO zs k zs.length q := by
  rw [List.mem_append, List.mem_iff_getElem?, List.mem_iff_getElem?]
  constructor
  · rintro (⟨j, hj⟩ | ⟨j, hj⟩)
    · rw [List.getElem?_take] at hj
      split at hj
      · exact ⟨j, (List.getElem?_eq_some_iff.1 hj).1, by omega, hj⟩
      · cases hj
    · rw [List.getElem?_drop] at hj
      exact ⟨k + 1 + j, (List.getElem?_eq_some_iff.1 hj).1, by omega, hj⟩
  · rintro ⟨j, hj, hk, hx⟩
    by_cases h : j < k
    · exact .inl ⟨j, by rw [List.getElem?_take, if_pos h]; exact hx⟩
    · exact .inr ⟨j - (k + 1), by rw [List.getElem?_drop, show k + 1 + (j - (k + 1)) = j by omega]; exact hx⟩
end Go.Proofs.Ytcpkbohopicabaa
