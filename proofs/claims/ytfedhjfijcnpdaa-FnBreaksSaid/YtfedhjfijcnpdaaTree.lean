/- Trees: merged parts and distances (plain law). -/
import Derived.Test.YtfedhjfijcnpdaaBase
namespace Go.Proofs.Ytfedhjfijcnpdaa.Tr
set_option linter.unusedVariables false
abbrev TEdge := Nat × Nat × Int
/-- Two joints with a limb. -/
def Adj (E : List TEdge) (v u : Nat) (L : Int) : Prop := (v, u, L) ∈ E ∨ (u, v, L) ∈ E
theorem Adj.symm {E : List TEdge} {v u : Nat} {L : Int} (h : Adj E v u L) : Adj E u v L := Or.symm h
/-- The parts after a limb. -/
def mgP (P : Nat → Nat) (a b : Nat) (v : Nat) : Nat := if P v = P b then P a else P v
/-- The distances after a limb. -/
def mgD (P : Nat → Nat) (d : Nat → Nat → Int) (a b : Nat) (L : Int) (x y : Nat) : Int :=
  if P x = P y then d x y else if P x = P a ∧ P y = P b then d x a + L + d b y else if P x = P b ∧ P y = P a then d x b + L + d a y else 0
structure Part (N : Nat) (E : List TEdge) (P : Nat → Nat) : Prop where
  rng : ∀ e ∈ E, e.1 < N ∧ e.2.1 < N
  lt : ∀ v, v < N → P v < N
  idem : ∀ v, v < N → P (P v) = P v
  conn : ∀ v u L, Adj E v u L → P v = P u
theorem Adj.rng {E : List TEdge} {N v u : Nat} {L : Int} (hr : ∀ e ∈ E, e.1 < N ∧ e.2.1 < N) (h : Adj E v u L) : v < N ∧ u < N := by
  rcases h with h | h
  · exact hr _ h
  · exact (hr _ h).symm
theorem Adj.app {E : List TEdge} {a b v u : Nat} {L K : Int} : Adj (E ++ [(a, b, L)]) v u K ↔ Adj E v u K ∨ (v = a ∧ u = b ∧ K = L) ∨ (v = b ∧ u = a ∧ K = L) := by
  unfold Adj
  simp only [List.mem_append, List.mem_singleton, Prod.mk.injEq]
  constructor
  · rintro ((h | h) | (h | h))
    · exact .inl (.inl h)
    · exact .inr (.inl h)
    · exact .inl (.inr h)
    · exact .inr (.inr ⟨h.2.1, h.1, h.2.2⟩)
  · rintro ((h | h) | (h | h))
    · exact .inl (.inl h)
    · exact .inr (.inl h)
    · exact .inl (.inr h)
    · exact .inr (.inr ⟨h.2.1, h.1, h.2.2⟩)
theorem Part.nil (N : Nat) : Part N [] (fun v => v) := ⟨by simp, fun _ h => h, fun _ _ => rfl, fun v u L h => by rcases h with h | h <;> simp at h⟩
theorem Part.merge {N : Nat} {E : List TEdge} {P : Nat → Nat} (h : Part N E P) {a b : Nat} (ha : a < N) (hb : b < N) (L : Int) : Part N (E ++ [(a, b, L)]) (mgP P a b) := by
  have ia := h.idem a ha
  refine ⟨?_, ?_, ?_, ?_⟩
  · intro e he
    rcases List.mem_append.1 he with he | he
    · exact h.rng e he
    · rw [List.mem_singleton.1 he]; exact ⟨ha, hb⟩
  · intro v hv
    unfold mgP
    split
    · exact h.lt a ha
    · exact h.lt v hv
  · intro v hv
    have iv := h.idem v hv
    unfold mgP
    by_cases h1 : P v = P b
    · simp only [h1, if_true, ia]
      split <;> simp_all
    · simp only [h1, if_false, iv]
  · intro v u K hk
    unfold mgP
    rcases Adj.app.1 hk with hk | ⟨rfl, rfl, rfl⟩ | ⟨rfl, rfl, rfl⟩
    · rw [h.conn v u K hk]
    · simp only [if_true]; split <;> rfl
    · simp only [if_true]; split <;> rfl
/-- The roots. -/
def roots (N : Nat) (P : Nat → Nat) : Nat := (List.range N).countP fun v => P v == v
theorem countP_one {p : Nat → Bool} {c : Nat} : ∀ {l : List Nat}, l.Nodup → c ∈ l → p c = true → l.countP (fun v => p v && v != c) + 1 = l.countP p := by
  intro l
  induction l with
  | nil => intro _ h; simp at h
  | cons x r ih =>
    intro hn hc hp
    have hn' := List.nodup_cons.1 hn
    rw [List.countP_cons, List.countP_cons]
    rcases List.mem_cons.1 hc with rfl | hc
    · have : r.countP (fun v => p v && v != c) = r.countP p := by
        apply List.countP_congr
        intro v hv
        have : v ≠ c := fun e => hn'.1 (e ▸ hv)
        simp [this]
      simp [this, hp]
    · have hx : x ≠ c := fun e => hn'.1 (e ▸ hc)
      have := ih hn'.2 hc hp
      have h2 : (x != c) = true := by simp [hx]
      rw [h2, Bool.and_true]
      omega
theorem roots_merge {N : Nat} {E : List TEdge} {P : Nat → Nat} (h : Part N E P) {a b : Nat} (ha : a < N) (hb : b < N) (hne : P a ≠ P b) : roots N (mgP P a b) + 1 = roots N P := by
  have h1 : roots N (mgP P a b) = (List.range N).countP fun v => (P v == v) && v != P b := by
    unfold roots
    apply List.countP_congr
    intro v hv
    rw [List.mem_range] at hv
    simp only [mgP, beq_iff_eq, Bool.and_eq_true, bne_iff_ne, ne_eq]
    have ia := h.idem a ha
    have ib := h.idem b hb
    split
    · rename_i e
      constructor
      · rintro rfl; rw [ia] at e; exact absurd e hne
      · rintro ⟨h2, h3⟩; exact absurd (h2.symm.trans e) h3
    · rename_i e
      constructor
      · intro h2; exact ⟨h2, fun h3 => e (by rw [h3, ib])⟩
      · exact fun h2 => h2.1
  rw [h1]
  exact countP_one (p := fun v => P v == v) List.nodup_range (List.mem_range.2 (h.lt b hb)) (by simp [h.idem b hb])
theorem mgP_same {P : Nat → Nat} {a b : Nat} (h : P a = P b) : mgP P a b = P := by
  funext v
  unfold mgP
  split
  · rename_i e; rw [e, h]
  · rfl
theorem roots_id (N : Nat) : roots N (fun v => v) = N := by
  unfold roots
  rw [List.countP_eq_length.2 (by simp)]
  simp
theorem root_of {N : Nat} {E : List TEdge} {P : Nat → Nat} (h : Part N E P) (h1 : roots N P = 1) {x y : Nat} (hx : x < N) (hy : y < N) : P x = P y := by
  by_cases e : P x = P y
  · exact e
  · exfalso
    have hp : (fun v => P v == v) (P x) = true := by simp [h.idem x hx]
    have h2 := countP_one (p := fun v => P v == v) (c := P x) List.nodup_range (List.mem_range.2 (h.lt x hx)) hp
    unfold roots at h1
    rw [h1] at h2
    have h3 : (List.range N).countP (fun v => (P v == v) && v != P x) = 0 := by omega
    have := List.countP_eq_zero.1 h3 (P y) (List.mem_range.2 (h.lt y hy))
    apply this
    simp [h.idem y hy]
    exact fun e2 => e e2.symm
theorem root_two {N : Nat} {E : List TEdge} {P : Nat → Nat} (h : Part N E P) (h2 : 2 ≤ roots N P) (z : Nat) (hz : z < N) : ∃ y, y < N ∧ P y ≠ P z := by
  have hp : (fun v => P v == v) (P z) = true := by simp [h.idem z hz]
  have h3 := countP_one (p := fun v => P v == v) (c := P z) List.nodup_range (List.mem_range.2 (h.lt z hz)) hp
  unfold roots at h2
  have h4 : 0 < (List.range N).countP (fun v => (P v == v) && v != P z) := by omega
  obtain ⟨y, hy, hy2⟩ := List.countP_pos_iff.1 h4
  rw [List.mem_range] at hy
  simp only [Bool.and_eq_true, beq_iff_eq, bne_iff_ne, ne_eq] at hy2
  exact ⟨y, hy, by rw [hy2.1]; exact hy2.2⟩
/-- The forest that the limbs make. -/
structure Forest (N : Nat) (E : List TEdge) (P : Nat → Nat) (d : Nat → Nat → Int) : Prop extends Part N E P where
  pos : ∀ e ∈ E, 1 ≤ e.2.2
  closed : ∀ K : Nat → Prop, (∀ v u L, Adj E v u L → (K v ↔ K u)) → ∀ x y, x < N → y < N → P x = P y → (K x ↔ K y)
  symm : ∀ x y, P x = P y → d x y = d y x
  self : ∀ x, d x x = 0
  nn : ∀ x y, x < N → y < N → P x = P y → 0 ≤ d x y
  zero : ∀ x y, x < N → y < N → P x = P y → d x y = 0 → x = y
  orient : ∀ x v u L, x < N → Adj E v u L → P x = P v → d x u = d x v + L ∨ d x v = d x u + L
  par : ∀ x v, x < N → v < N → P x = P v → x ≠ v → ∃ u L, Adj E v u L ∧ d x v = d x u + L
  uniq : ∀ x v u u' L L', x < N → P x = P v → Adj E v u L → Adj E v u' L' → d x v = d x u + L → d x v = d x u' + L' → u = u'
theorem Forest.nil (N : Nat) : Forest N [] (fun v => v) (fun _ _ => 0) := by
  refine ⟨Part.nil N, by simp, ?_, fun _ _ _ => rfl, fun _ => rfl, fun _ _ _ _ _ => Int.le_refl 0, fun _ _ _ _ h _ => h, ?_, ?_, ?_⟩
  · intro K _ x y _ _ e; rw [show x = y from e]
  · intro x v u L _ h; rcases h with h | h <;> simp at h
  · intro x v _ _ h1 h2; exact absurd h1 h2
  · intro x v u u' L L' _ _ h; rcases h with h | h <;> simp at h
theorem Forest.posA {N : Nat} {E : List TEdge} {P : Nat → Nat} {d : Nat → Nat → Int} (h : Forest N E P d) {v u : Nat} {L : Int} (ha : Adj E v u L) : 1 ≤ L := by
  rcases ha with ha | ha
  · exact h.pos _ ha
  · exact h.pos _ ha
section merge
variable {N : Nat} {E : List TEdge} {P : Nat → Nat} {d : Nat → Nat → Int} {a b : Nat} {L : Int}
theorem mgD_same {x y : Nat} (h : P x = P y) : mgD P d a b L x y = d x y := by unfold mgD; rw [if_pos h]
theorem mgD_ab (hne : P a ≠ P b) {x y : Nat} (hx : P x = P a) (hy : P y = P b) : mgD P d a b L x y = d x a + L + d b y := by
  unfold mgD
  rw [if_neg (by rw [hx, hy]; exact hne), if_pos ⟨hx, hy⟩]
theorem mgD_ba (hne : P a ≠ P b) {x y : Nat} (hx : P x = P b) (hy : P y = P a) : mgD P d a b L x y = d x b + L + d a y := by
  unfold mgD
  rw [if_neg (by rw [hx, hy]; exact fun e => hne e.symm), if_neg (by rw [hx, hy]; exact fun e => hne e.1.symm), if_pos ⟨hx, hy⟩]
theorem mgP_eq (hne : P a ≠ P b) {x y : Nat} : mgP P a b x = mgP P a b y ↔ P x = P y ∨ (P x = P a ∧ P y = P b) ∨ (P x = P b ∧ P y = P a) := by
  unfold mgP
  by_cases h1 : P x = P b <;> by_cases h2 : P y = P b
  · simp [h1, h2]
  · simp only [h1, h2, if_true, if_false, true_and, false_or, and_false]
    constructor
    · intro e; exact .inr e.symm
    · rintro (e | e)
      · exact absurd e.symm h2
      · exact e.symm
  · simp only [h1, h2, if_true, if_false, and_true, false_and, or_false]
    constructor
    · intro e; exact .inr e
    · rintro (e | e)
      · exact e.elim
      · exact e
  · simp [h1, h2]
/-- A parent behind the limb. -/
theorem Forest.parM (h : Forest N E P d) (ha : a < N) (hb : b < N) (hne : P a ≠ P b) (hL : 1 ≤ L) {x v u : Nat} {K : Int} (hx : x < N) (hp : mgP P a b x = mgP P a b v) (hA : Adj (E ++ [(a, b, L)]) v u K) (he : mgD P d a b L x v = mgD P d a b L x u + K) :
    (P x = P v ∧ Adj E v u K ∧ d x v = d x u + K) ∨ (P x = P a ∧ P v = P b ∧ ((v = b ∧ u = a) ∨ (v ≠ b ∧ Adj E v u K ∧ d b v = d b u + K))) ∨ (P x = P b ∧ P v = P a ∧ ((v = a ∧ u = b) ∨ (v ≠ a ∧ Adj E v u K ∧ d a v = d a u + K))) := by
  have hne' : P b ≠ P a := fun e => hne e.symm
  rcases (mgP_eq hne).1 hp with h1 | ⟨h1, h2⟩ | ⟨h1, h2⟩
  · refine .inl ⟨h1, ?_⟩
    rw [mgD_same h1] at he
    rcases Adj.app.1 hA with hA | ⟨rfl, rfl, rfl⟩ | ⟨rfl, rfl, rfl⟩
    · have := h.conn _ _ _ hA
      rw [mgD_same (h1.trans this)] at he
      exact ⟨hA, he⟩
    · rw [mgD_ab hne h1 rfl, h.self] at he; omega
    · rw [mgD_ba hne h1 rfl, h.self] at he; omega
  · refine .inr (.inl ⟨h1, h2, ?_⟩)
    rw [mgD_ab hne h1 h2] at he
    rcases Adj.app.1 hA with hA | ⟨rfl, rfl, rfl⟩ | ⟨rfl, rfl, rfl⟩
    · have hu := h.conn _ _ _ hA
      rw [mgD_ab hne h1 (hu.symm.trans h2)] at he
      have hv := (hA.rng h.rng).2
      have hK := h.posA hA
      have h0 := h.nn b u hb hv (h2.symm.trans hu)
      refine .inr ⟨?_, hA, by omega⟩
      rintro rfl
      have := h.self v
      omega
    · exact absurd h2 hne
    · exact .inl ⟨rfl, rfl⟩
  · refine .inr (.inr ⟨h1, h2, ?_⟩)
    rw [mgD_ba hne h1 h2] at he
    rcases Adj.app.1 hA with hA | ⟨rfl, rfl, rfl⟩ | ⟨rfl, rfl, rfl⟩
    · have hu := h.conn _ _ _ hA
      rw [mgD_ba hne h1 (hu.symm.trans h2)] at he
      have hv := (hA.rng h.rng).2
      have hK := h.posA hA
      have h0 := h.nn a u ha hv (h2.symm.trans hu)
      refine .inr ⟨?_, hA, by omega⟩
      rintro rfl
      have := h.self v
      omega
    · exact .inl ⟨rfl, rfl⟩
    · exact absurd h2 hne'
theorem Forest.merge (h : Forest N E P d) (ha : a < N) (hb : b < N) (hne : P a ≠ P b) (hL : 1 ≤ L) : Forest N (E ++ [(a, b, L)]) (mgP P a b) (mgD P d a b L) := by
  have hne' : P b ≠ P a := fun e => hne e.symm
  refine ⟨h.toPart.merge ha hb L, ?_, ?_, ?_, ?_, ?_, ?_, ?_, ?_, ?_⟩
  · intro e he
    rcases List.mem_append.1 he with he | he
    · exact h.pos e he
    · rw [List.mem_singleton.1 he]; exact hL
  · intro K hK x y hx hy hp
    have hK' : ∀ v u L, Adj E v u L → (K v ↔ K u) := fun v u L hA => hK v u L (Adj.app.2 (.inl hA))
    have hab : K a ↔ K b := hK a b L (Adj.app.2 (.inr (.inl ⟨rfl, rfl, rfl⟩)))
    have hc := h.closed K hK'
    rcases (mgP_eq hne).1 hp with h1 | ⟨h1, h2⟩ | ⟨h1, h2⟩
    · exact hc x y hx hy h1
    · rw [hc x a hx ha h1, hc y b hy hb h2]; exact hab
    · rw [hc x b hx hb h1, hc y a hy ha h2]; exact hab.symm
  · intro x y hp
    rcases (mgP_eq hne).1 hp with h1 | ⟨h1, h2⟩ | ⟨h1, h2⟩
    · rw [mgD_same h1, mgD_same h1.symm]; exact h.symm x y h1
    · rw [mgD_ab hne h1 h2, mgD_ba hne h2 h1, h.symm x a h1, h.symm y b h2]; omega
    · rw [mgD_ba hne h1 h2, mgD_ab hne h2 h1, h.symm x b h1, h.symm y a h2]; omega
  · intro x; rw [mgD_same rfl]; exact h.self x
  · intro x y hx hy hp
    rcases (mgP_eq hne).1 hp with h1 | ⟨h1, h2⟩ | ⟨h1, h2⟩
    · rw [mgD_same h1]; exact h.nn x y hx hy h1
    · rw [mgD_ab hne h1 h2]
      have := h.nn x a hx ha h1
      have := h.nn b y hb hy h2.symm
      omega
    · rw [mgD_ba hne h1 h2]
      have := h.nn x b hx hb h1
      have := h.nn a y ha hy h2.symm
      omega
  · intro x y hx hy hp
    rcases (mgP_eq hne).1 hp with h1 | ⟨h1, h2⟩ | ⟨h1, h2⟩
    · rw [mgD_same h1]; exact h.zero x y hx hy h1
    · rw [mgD_ab hne h1 h2]
      have := h.nn x a hx ha h1
      have := h.nn b y hb hy h2.symm
      intro e; omega
    · rw [mgD_ba hne h1 h2]
      have := h.nn x b hx hb h1
      have := h.nn a y ha hy h2.symm
      intro e; omega
  · intro x v u K hx hA hp
    rcases (mgP_eq hne).1 hp with h1 | ⟨h1, h2⟩ | ⟨h1, h2⟩
    · rw [mgD_same h1]
      rcases Adj.app.1 hA with hA | ⟨rfl, rfl, rfl⟩ | ⟨rfl, rfl, rfl⟩
      · rw [mgD_same (h1.trans (h.conn _ _ _ hA))]; exact h.orient x v u K hx hA h1
      · rw [mgD_ab hne h1 rfl, h.self]; left; omega
      · rw [mgD_ba hne h1 rfl, h.self]; left; omega
    · rw [mgD_ab hne h1 h2]
      rcases Adj.app.1 hA with hA | ⟨rfl, rfl, rfl⟩ | ⟨rfl, rfl, rfl⟩
      · rw [mgD_ab hne h1 ((h.conn _ _ _ hA).symm.trans h2)]
        rcases h.orient b v u K hb hA h2.symm with e | e
        · left; omega
        · right; omega
      · exact absurd h2 hne
      · rw [mgD_same h1, h.self]; right; omega
    · rw [mgD_ba hne h1 h2]
      rcases Adj.app.1 hA with hA | ⟨rfl, rfl, rfl⟩ | ⟨rfl, rfl, rfl⟩
      · rw [mgD_ba hne h1 ((h.conn _ _ _ hA).symm.trans h2)]
        rcases h.orient a v u K ha hA h2.symm with e | e
        · left; omega
        · right; omega
      · rw [mgD_same h1, h.self]; right; omega
      · exact absurd h2 hne'
  · intro x v hx hv hp hxv
    rcases (mgP_eq hne).1 hp with h1 | ⟨h1, h2⟩ | ⟨h1, h2⟩
    · obtain ⟨u, K, hA, e⟩ := h.par x v hx hv h1 hxv
      refine ⟨u, K, Adj.app.2 (.inl hA), ?_⟩
      rw [mgD_same h1, mgD_same (h1.trans (h.conn _ _ _ hA))]; exact e
    · by_cases hvb : v = b
      · subst hvb
        refine ⟨a, L, Adj.app.2 (.inr (.inr ⟨rfl, rfl, rfl⟩)), ?_⟩
        rw [mgD_ab hne h1 h2, mgD_same h1, h.self]; omega
      · obtain ⟨u, K, hA, e⟩ := h.par b v hb hv h2.symm (fun e => hvb e.symm)
        refine ⟨u, K, Adj.app.2 (.inl hA), ?_⟩
        rw [mgD_ab hne h1 h2, mgD_ab hne h1 ((h.conn _ _ _ hA).symm.trans h2)]; omega
    · by_cases hva : v = a
      · subst hva
        refine ⟨b, L, Adj.app.2 (.inr (.inl ⟨rfl, rfl, rfl⟩)), ?_⟩
        rw [mgD_ba hne h1 h2, mgD_same h1, h.self]; omega
      · obtain ⟨u, K, hA, e⟩ := h.par a v ha hv h2.symm (fun e => hva e.symm)
        refine ⟨u, K, Adj.app.2 (.inl hA), ?_⟩
        rw [mgD_ba hne h1 h2, mgD_ba hne h1 ((h.conn _ _ _ hA).symm.trans h2)]; omega
  · intro x v u u' K K' hx hp hA hA' he he'
    have p1 := h.parM ha hb hne hL hx hp hA he
    have p2 := h.parM ha hb hne hL hx hp hA' he'
    rcases p1 with ⟨q, r, s⟩ | ⟨q1, q2, q3⟩ | ⟨q1, q2, q3⟩
    · rcases p2 with ⟨q', r', s'⟩ | ⟨q1', q2', q3'⟩ | ⟨q1', q2', q3'⟩
      · exact h.uniq x v u u' K K' hx q r r' s s'
      · exact absurd (q1'.symm.trans (q.trans q2')) hne
      · exact absurd (q1'.symm.trans (q.trans q2')) hne'
    · rcases p2 with ⟨q', r', s'⟩ | ⟨q1', q2', q3'⟩ | ⟨q1', q2', q3'⟩
      · exact absurd (q1.symm.trans (q'.trans q2)) hne
      · rcases q3 with ⟨e1, e2⟩ | ⟨n1, r, s⟩ <;> rcases q3' with ⟨e1', e2'⟩ | ⟨n1', r', s'⟩
        · rw [e2, e2']
        · exact absurd e1 n1'
        · exact absurd e1' n1
        · exact h.uniq b v u u' K K' hb q2.symm r r' s s'
      · exact absurd (q1.symm.trans q1') hne
    · rcases p2 with ⟨q', r', s'⟩ | ⟨q1', q2', q3'⟩ | ⟨q1', q2', q3'⟩
      · exact absurd (q1.symm.trans (q'.trans q2)) hne'
      · exact absurd (q1.symm.trans q1') hne'
      · rcases q3 with ⟨e1, e2⟩ | ⟨n1, r, s⟩ <;> rcases q3' with ⟨e1', e2'⟩ | ⟨n1', r', s'⟩
        · rw [e2, e2']
        · exact absurd e1 n1'
        · exact absurd e1' n1
        · exact h.uniq a v u u' K K' ha q2.symm r r' s s'
end merge
/-! Filling of distances. -/
def upd (D : Nat → Int) (b : Nat) (x : Int) (v : Nat) : Int := if v = b then x else D v
theorem upd_self {D : Nat → Int} {b : Nat} {x : Int} : upd D b x b = x := by simp [upd]
theorem upd_ne {D : Nat → Int} {b v : Nat} {x : Int} (h : v ≠ b) : upd D b x v = D v := by simp [upd, h]
def fs1 (D : Nat → Int) (a b : Nat) (L : Int) : Nat → Int := if 0 ≤ D a ∧ D b < 0 then upd D b (D a + L) else D
def fs (D : Nat → Int) (e : TEdge) : Nat → Int := fs1 (fs1 D e.1 e.2.1 e.2.2) e.2.1 e.1 e.2.2
def cnt (N : Nat) (D : Nat → Int) : Nat := (List.range N).countP fun v => decide (0 ≤ D v)
theorem cnt_le (N : Nat) (D : Nat → Int) : cnt N D ≤ N := by
  have := List.countP_le_length (p := fun v => decide (0 ≤ D v)) (l := List.range N)
  rw [List.length_range] at this
  exact this
theorem cnt_upd {N : Nat} {D : Nat → Int} {b : Nat} {x : Int} (hb : b < N) (h : D b < 0) (hx : 0 ≤ x) : cnt N (upd D b x) = cnt N D + 1 := by
  have h1 := countP_one (p := fun v => decide (0 ≤ upd D b x v)) (c := b) List.nodup_range (List.mem_range.2 hb) (by simp [upd, hx])
  have h2 : (List.range N).countP (fun v => decide (0 ≤ upd D b x v) && v != b) = cnt N D := by
    apply List.countP_congr
    intro v _
    by_cases e : v = b
    · subst e; simp; omega
    · simp [upd, e]
  rw [h2] at h1
  exact h1.symm
/-- What is known of a filling. -/
structure Fil (N : Nat) (D : Nat → Int) : Prop where
  neg : ∀ v, v < N → D v < 0 → D v = -1
  top : ∀ v, v < N → 0 ≤ D v → D v + 100 ≤ 100 * (cnt N D : Int)
theorem Fil.bound {N : Nat} {D : Nat → Int} (h : Fil N D) {v : Nat} (hv : v < N) : -1 ≤ D v ∧ D v ≤ 100 * (N : Int) := by
  have hc := cnt_le N D
  by_cases h0 : 0 ≤ D v
  · have := h.top v hv h0; omega
  · have := h.neg v hv (by omega); omega
theorem Fil.fs1 {N : Nat} {D : Nat → Int} (h : Fil N D) {a b : Nat} {L : Int} (ha : a < N) (hb : b < N) (hL : 1 ≤ L) (hL2 : L ≤ 100) : Fil N (fs1 D a b L) := by
  unfold Tr.fs1
  split
  · rename_i c
    have ht := h.top a ha c.1
    have hc := cnt_upd (x := D a + L) hb c.2 (by omega)
    refine ⟨fun v hv hn => ?_, fun v hv hp => ?_⟩
    · by_cases e : v = b
      · subst e; rw [upd_self] at hn; omega
      · rw [upd_ne e] at hn ⊢; exact h.neg v hv hn
    · rw [hc]
      by_cases e : v = b
      · subst e; rw [upd_self]; omega
      · rw [upd_ne e] at hp ⊢; have := h.top v hv hp; omega
  · exact h
theorem Fil.fs {N : Nat} {D : Nat → Int} (h : Fil N D) {e : TEdge} (ha : e.1 < N) (hb : e.2.1 < N) (hL : 1 ≤ e.2.2) (hL2 : e.2.2 ≤ 100) : Fil N (fs D e) := (h.fs1 ha hb hL hL2).fs1 hb ha hL hL2
/-- Known stays known; if nothing is gained nothing has changed. -/
theorem fs1_cnt {N : Nat} {D : Nat → Int} {a b : Nat} {L : Int} (hb : b < N) (hL : 1 ≤ L) : cnt N D ≤ cnt N (fs1 D a b L) ∧ (cnt N (fs1 D a b L) = cnt N D → fs1 D a b L = D ∧ (0 ≤ D a → 0 ≤ D b)) := by
  unfold fs1
  split
  · rename_i c
    have hc := cnt_upd (x := D a + L) hb c.2 (by omega)
    refine ⟨by omega, fun e => by omega⟩
  · rename_i c
    refine ⟨Nat.le_refl _, fun _ => ⟨rfl, fun h0 => ?_⟩⟩
    by_cases h1 : 0 ≤ D b
    · exact h1
    · exact absurd ⟨h0, by omega⟩ c
theorem fs_cnt {N : Nat} {D : Nat → Int} {e : TEdge} (ha : e.1 < N) (hb : e.2.1 < N) (hL : 1 ≤ e.2.2) : cnt N D ≤ cnt N (fs D e) ∧ (cnt N (fs D e) = cnt N D → fs D e = D ∧ (0 ≤ D e.1 ↔ 0 ≤ D e.2.1)) := by
  have h1 := fs1_cnt (D := D) (a := e.1) (L := e.2.2) hb hL
  have h2 := fs1_cnt (D := fs1 D e.1 e.2.1 e.2.2) (a := e.2.1) (L := e.2.2) ha hL
  refine ⟨Nat.le_trans h1.1 h2.1, fun he => ?_⟩
  have he1 : cnt N (fs1 D e.1 e.2.1 e.2.2) = cnt N D := by
    have : cnt N (fs1 D e.1 e.2.1 e.2.2) ≤ cnt N (fs D e) := h2.1
    omega
  obtain ⟨q1, q2⟩ := h1.2 he1
  have he2 : cnt N (fs1 (fs1 D e.1 e.2.1 e.2.2) e.2.1 e.1 e.2.2) = cnt N (fs1 D e.1 e.2.1 e.2.2) := by
    show cnt N (fs D e) = _
    omega
  obtain ⟨q3, q4⟩ := h2.2 he2
  rw [q1] at q3 q4
  refine ⟨?_, q2, q4⟩
  show fs1 (fs1 D e.1 e.2.1 e.2.2) e.2.1 e.1 e.2.2 = D
  rw [q1, q3]
def Ok (N : Nat) (E : List TEdge) : Prop := ∀ e ∈ E, e.1 < N ∧ e.2.1 < N ∧ 1 ≤ e.2.2 ∧ e.2.2 ≤ 100
theorem fold_cnt {N : Nat} : ∀ {E : List TEdge} {D : Nat → Int}, Ok N E → cnt N D ≤ cnt N (E.foldl fs D) ∧ (cnt N (E.foldl fs D) = cnt N D → E.foldl fs D = D ∧ ∀ e ∈ E, (0 ≤ D e.1 ↔ 0 ≤ D e.2.1)) := by
  intro E
  induction E with
  | nil => intro D _; exact ⟨Nat.le_refl _, fun _ => ⟨rfl, by simp⟩⟩
  | cons e r ih =>
    intro D hk
    have h0 := hk e (by simp)
    have h1 := fs_cnt (D := D) (e := e) h0.1 h0.2.1 h0.2.2.1
    have h2 := ih (D := fs D e) fun y hy => hk y (by simp [hy])
    rw [List.foldl_cons]
    refine ⟨Nat.le_trans h1.1 h2.1, fun he => ?_⟩
    have he1 : cnt N (fs D e) = cnt N D := by have := h1.1; have := h2.1; omega
    have he2 : cnt N (r.foldl fs (fs D e)) = cnt N (fs D e) := by omega
    obtain ⟨q1, q2⟩ := h1.2 he1
    obtain ⟨q3, q4⟩ := h2.2 he2
    rw [q1] at q3 q4
    refine ⟨by rw [q1, q3], fun y hy => ?_⟩
    rcases List.mem_cons.1 hy with rfl | hy
    · exact q2
    · exact q4 y hy
theorem Fil.fold {N : Nat} : ∀ {E : List TEdge} {D : Nat → Int}, Ok N E → Fil N D → Fil N (E.foldl Tr.fs D) := by
  intro E
  induction E with
  | nil => intro D _ h; exact h
  | cons e r ih =>
    intro D hk h
    have h0 := hk e (by simp)
    exact ih (fun y hy => hk y (by simp [hy])) (h.fs h0.1 h0.2.1 h0.2.2.1 h0.2.2.2)
def fillR (E : List TEdge) (D : Nat → Int) : Nat → Nat → Int
  | 0 => D
  | r + 1 => E.foldl fs (fillR E D r)
def fill0 (i : Nat) (v : Nat) : Int := if v = i then 0 else -1
/-- The filling from a joint. -/
def fill (N : Nat) (E : List TEdge) (i : Nat) : Nat → Int := fillR E (fill0 i) N
theorem Fil.zero {N i : Nat} (hi : i < N) : Fil N (fill0 i) := by
  have hc : 1 ≤ cnt N (fill0 i) := by
    unfold cnt
    exact List.countP_pos_iff.2 ⟨i, List.mem_range.2 hi, by simp [fill0]⟩
  refine ⟨fun v _ h => ?_, fun v _ h => ?_⟩
  · unfold fill0 at h ⊢; split at h <;> simp_all
  · have h2 : fill0 i v ≤ 0 := by unfold fill0; split <;> omega
    omega
theorem Fil.fillR {N i : Nat} (hi : i < N) {E : List TEdge} (hk : Ok N E) : ∀ r, Fil N (fillR E (fill0 i) r)
  | 0 => .zero hi
  | r + 1 => (Fil.fillR hi hk r).fold hk
theorem Ok.take {N : Nat} {E : List TEdge} (h : Ok N E) (k : Nat) : Ok N (E.take k) := fun e he => h e (List.mem_of_mem_take he)
theorem fold_keep {N : Nat} {Q : (Nat → Int) → Prop} : ∀ {E : List TEdge} {D : Nat → Int}, Ok N E → (∀ D e, e ∈ E → Q D → Q (fs D e)) → Q D → Q (E.foldl fs D) := by
  intro E
  induction E with
  | nil => intro D _ _ h; exact h
  | cons e r ih =>
    intro D hk hs h
    exact ih (fun y hy => hk y (by simp [hy])) (fun D y hy => hs D y (by simp [hy])) (hs D e (by simp) h)
theorem fillR_keep {N : Nat} {Q : (Nat → Int) → Prop} {E : List TEdge} {D : Nat → Int} (hk : Ok N E) (hs : ∀ D e, e ∈ E → Q D → Q (fs D e)) (h : Q D) : ∀ r, Q (fillR E D r)
  | 0 => h
  | r + 1 => fold_keep hk hs (fillR_keep hk hs h r)
/-- What is known lies in the part of the start. -/
theorem fill_part {N : Nat} {E : List TEdge} {P : Nat → Nat} (hk : Ok N E) (h : Part N E P) {i : Nat} (r : Nat) : ∀ v, 0 ≤ fillR E (fill0 i) r v → P v = P i := by
  refine fillR_keep (Q := fun D => ∀ v, 0 ≤ D v → P v = P i) hk ?_ ?_ r
  · intro D e he hQ
    have hc := h.conn e.1 e.2.1 e.2.2 (.inl he)
    have one : ∀ (D : Nat → Int) a b L, P a = P b → (∀ v, 0 ≤ D v → P v = P i) → ∀ v, 0 ≤ fs1 D a b L v → P v = P i := by
      intro D a b L hab hQ v hv
      unfold fs1 at hv
      split at hv
      · rename_i c
        by_cases e : v = b
        · subst e; rw [← hab]; exact hQ a c.1
        · rw [upd_ne e] at hv; exact hQ v hv
      · exact hQ v hv
    exact one _ _ _ _ hc.symm (one _ _ _ _ hc hQ)
  · intro v hv
    unfold fill0 at hv
    split at hv
    · rename_i e; rw [e]
    · omega
theorem fill_start {N : Nat} {E : List TEdge} (hk : Ok N E) {i : Nat} (r : Nat) : fillR E (fill0 i) r i = 0 := by
  refine fillR_keep (Q := fun D => D i = 0) hk ?_ ?_ r
  · intro D e he hQ
    have one : ∀ (D : Nat → Int) a b L, D i = 0 → fs1 D a b L i = 0 := by
      intro D a b L hQ
      unfold fs1
      split
      · rename_i c
        rw [upd_ne]; exact hQ
        rintro rfl; omega
      · exact hQ
    exact one _ _ _ _ (one _ _ _ _ hQ)
  · simp [fill0]
/-- Of a whole tree everything gets known. -/
theorem fill_all {N : Nat} {E : List TEdge} {P : Nat → Nat} {d : Nat → Nat → Int} (hk : Ok N E) (h : Forest N E P d) (h1 : ∀ x y, x < N → y < N → P x = P y) {i : Nat} (hi : i < N) : ∀ v, v < N → 0 ≤ fill N E i v := by
  have key : ∀ r, min N (r + 1) ≤ cnt N (fillR E (fill0 i) r) := by
    intro r
    induction r with
    | zero =>
      have : 0 < cnt N (fillR E (fill0 i) 0) := by
        unfold cnt
        exact List.countP_pos_iff.2 ⟨i, List.mem_range.2 hi, by simp [fillR, fill0]⟩
      omega
    | succ r ih =>
      have hc := fold_cnt (D := fillR E (fill0 i) r) hk
      by_cases e : cnt N (E.foldl fs (fillR E (fill0 i) r)) = cnt N (fillR E (fill0 i) r)
      · obtain ⟨q1, q2⟩ := hc.2 e
        have hcl := h.closed (fun v => 0 ≤ fillR E (fill0 i) r v) (fun v u L hA => by
          rcases hA with hA | hA
          · exact q2 _ hA
          · exact (q2 _ hA).symm)
        have hal : cnt N (fillR E (fill0 i) r) = N := by
          unfold cnt
          rw [List.countP_eq_length.2, List.length_range]
          intro v hv
          have hv := List.mem_range.1 hv
          rw [decide_eq_true_eq]
          exact (hcl i v hi hv (h1 i v hi hv)).1 (by rw [fill_start hk]; exact Int.le_refl 0)
        show _ ≤ cnt N (E.foldl fs (fillR E (fill0 i) r))
        omega
      · have := hc.1
        show _ ≤ cnt N (E.foldl fs (fillR E (fill0 i) r))
        omega
  intro v hv
  have h2 := key N
  have h3 := cnt_le N (fillR E (fill0 i) N)
  have h4 : cnt N (fillR E (fill0 i) N) = N := by omega
  unfold cnt at h4
  have := List.countP_eq_length.1 (show _ = (List.range N).length by rw [List.length_range]; exact h4) v (List.mem_range.2 hv)
  rw [decide_eq_true_eq] at this
  exact this
/-- What is known is right. -/
theorem fill_right {N : Nat} {E : List TEdge} {P : Nat → Nat} {d : Nat → Nat → Int} (hk : Ok N E) (h : Forest N E P d) (h1 : ∀ x y, x < N → y < N → P x = P y) {i : Nat} (hi : i < N) (r : Nat) : ∀ v, v < N → 0 ≤ fillR E (fill0 i) r v → fillR E (fill0 i) r v = d i v ∧ ∀ u L, Adj E v u L → d i v = d i u + L → 0 ≤ fillR E (fill0 i) r u := by
  refine fillR_keep (Q := fun D => ∀ v, v < N → 0 ≤ D v → D v = d i v ∧ ∀ u L, Adj E v u L → d i v = d i u + L → 0 ≤ D u) hk ?_ ?_ r
  · intro D e he hQ
    have hr := hk e he
    have one : ∀ (D : Nat → Int) a b L, Adj E a b L → (∀ v, v < N → 0 ≤ D v → D v = d i v ∧ ∀ u L, Adj E v u L → d i v = d i u + L → 0 ≤ D u) → ∀ v, v < N → 0 ≤ fs1 D a b L v → fs1 D a b L v = d i v ∧ ∀ u K, Adj E v u K → d i v = d i u + K → 0 ≤ fs1 D a b L u := by
      intro D a b L hA hQ v hv h0
      have hab := hA.rng h.rng
      have hL := h.posA hA
      unfold fs1 at h0 ⊢
      split
      · rename_i c
        rw [if_pos c] at h0
        have qa := hQ a hab.1 c.1
        have mono : ∀ u, 0 ≤ D u → 0 ≤ upd D b (D a + L) u := by
          intro u hu
          by_cases e : u = b
          · subst e; rw [upd_self]; omega
          · rw [upd_ne e]; exact hu
        by_cases e : v = b
        · subst e
          rw [upd_self]
          have ho := h.orient i a v L hi hA (h1 i a hi hab.1)
          have hd : d i v = d i a + L := by
            rcases ho with ho | ho
            · exact ho
            · have := qa.2 v L hA ho; omega
          refine ⟨by rw [qa.1, hd], fun u K hA' he' => ?_⟩
          have := h.uniq i v a u L K hi (h1 i v hi hv) hA.symm hA' hd he'
          subst this
          exact mono a c.1
        · rw [upd_ne e] at h0 ⊢
          have qv := hQ v hv h0
          exact ⟨qv.1, fun u K hA' he' => mono u (qv.2 u K hA' he')⟩
      · rename_i c
        rw [if_neg c] at h0
        exact hQ v hv h0
    exact one _ _ _ _ (Or.inr he) (one _ _ _ _ (.inl he) hQ)
  · intro v hv h0
    unfold fill0 at h0 ⊢
    split at h0
    · rename_i e
      subst e
      rw [if_pos rfl]
      refine ⟨(h.self v).symm, fun u L hA he => ?_⟩
      have := h.posA hA
      have hu := (hA.rng h.rng).2
      have := h.nn v u hi hu (h1 v u hi hu)
      rw [h.self] at he
      omega
    · omega
theorem fill_eq {N : Nat} {E : List TEdge} {P : Nat → Nat} {d : Nat → Nat → Int} (hk : Ok N E) (h : Forest N E P d) (h1 : ∀ x y, x < N → y < N → P x = P y) {i v : Nat} (hi : i < N) (hv : v < N) : fill N E i v = d i v :=
  (fill_right hk h h1 hi N v hv (fill_all hk h h1 hi v hv)).1
theorem dist_le {N : Nat} {E : List TEdge} {P : Nat → Nat} {d : Nat → Nat → Int} (hk : Ok N E) (h : Forest N E P d) (h1 : ∀ x y, x < N → y < N → P x = P y) {i v : Nat} (hi : i < N) (hv : v < N) : 0 ≤ d i v ∧ d i v ≤ 100 * (N : Int) := by
  have h2 := ((Fil.fillR hi hk N).bound hv).2
  have h3 : fill N E i v = d i v := fill_eq hk h h1 hi hv
  unfold fill at h3
  rw [h3] at h2
  exact ⟨h.nn i v hi hv (h1 i v hi hv), h2⟩
/-! The merging of all limbs, whatever they are. -/
def mgE (P : Nat → Nat) : List TEdge → Nat → Nat
  | [] => P
  | e :: r => mgE (mgP P e.1 e.2.1) r
/-- All limbs join two parts. -/
def allJ (P : Nat → Nat) : List TEdge → Bool
  | [] => true
  | e :: r => decide (P e.1 ≠ P e.2.1) && allJ (mgP P e.1 e.2.1) r
theorem mgE_part {N : Nat} : ∀ {E' E : List TEdge} {P : Nat → Nat}, Ok N E' → Part N E P → Part N (E ++ E') (mgE P E') ∧ (roots N P ≤ roots N (mgE P E') + E'.length) ∧ (allJ P E' = false → roots N P < roots N (mgE P E') + E'.length) ∧ (allJ P E' = true → roots N P = roots N (mgE P E') + E'.length) := by
  intro E'
  induction E' with
  | nil => intro E P _ h; rw [List.append_nil]; exact ⟨h, Nat.le_refl _, fun h => (by simp [allJ] at h), fun _ => rfl⟩
  | cons e r ih =>
    intro E P hk h
    have h0 := hk e (by simp)
    have hm := h.merge h0.1 h0.2.1 e.2.2
    obtain ⟨i1, i2, i3, i4⟩ := ih (fun y hy => hk y (by simp [hy])) hm
    rw [List.append_assoc] at i1
    have hr : (P e.1 ≠ P e.2.1 → roots N (mgP P e.1 e.2.1) + 1 = roots N P) ∧ (P e.1 = P e.2.1 → roots N (mgP P e.1 e.2.1) = roots N P) := ⟨roots_merge h h0.1 h0.2.1, fun e => by rw [mgP_same e]⟩
    refine ⟨i1, ?_, ?_, ?_⟩
    · rw [mgE, List.length_cons]
      by_cases hh : P e.1 = P e.2.1
      · have := hr.2 hh; omega
      · have := hr.1 hh; omega
    · intro hf
      rw [mgE, List.length_cons]
      by_cases hh : P e.1 = P e.2.1
      · have := hr.2 hh; omega
      · have := hr.1 hh
        simp only [allJ, hh, ne_eq, not_false_eq_true, decide_true, Bool.true_and] at hf
        have := i3 hf
        omega
    · intro hf
      rw [mgE, List.length_cons]
      simp only [allJ, Bool.and_eq_true, decide_eq_true_eq] at hf
      have := hr.1 hf.1
      have := i4 hf.2
      omega
theorem mgE_forest {N : Nat} : ∀ {E' E : List TEdge} {P : Nat → Nat} {d : Nat → Nat → Int}, Ok N E' → Forest N E P d → allJ P E' = true → ∃ d', Forest N (E ++ E') (mgE P E') d' := by
  intro E'
  induction E' with
  | nil => intro E P d _ h _; rw [List.append_nil]; exact ⟨d, h⟩
  | cons e r ih =>
    intro E P d hk h hf
    have h0 := hk e (by simp)
    simp only [allJ, Bool.and_eq_true, decide_eq_true_eq] at hf
    obtain ⟨d', h'⟩ := ih (fun y hy => hk y (by simp [hy])) (h.merge h0.1 h0.2.1 hf.1 h0.2.2.1) hf.2
    rw [List.append_assoc] at h'
    exact ⟨d', h'⟩
/-- A tree and its distances. -/
structure Tree (N : Nat) (E : List TEdge) (d : Nat → Nat → Int) : Prop where
  ok : Ok N E
  symm : ∀ x y, x < N → y < N → d x y = d y x
  self : ∀ x, d x x = 0
  le : ∀ x y, x < N → y < N → 0 ≤ d x y ∧ d x y ≤ 100 * (N : Int)
  zero : ∀ x y, x < N → y < N → d x y = 0 → x = y
  orient : ∀ x v u L, x < N → Adj E v u L → d x u = d x v + L ∨ d x v = d x u + L
  par : ∀ x v, x < N → v < N → x ≠ v → ∃ u L, Adj E v u L ∧ d x v = d x u + L
  uniq : ∀ x v u u' L L', x < N → Adj E v u L → Adj E v u' L' → d x v = d x u + L → d x v = d x u' + L' → u = u'
  fill : ∀ i v, i < N → v < N → fill N E i v = d i v
/-- The two tests of a body say the same. -/
theorem tree_of {N : Nat} {E : List TEdge} (hk : Ok N E) (hl : E.length + 1 = N) (hj : allJ (fun v => v) E = true) : ∃ d, Tree N E d := by
  obtain ⟨d, hF⟩ := mgE_forest hk (Forest.nil N) hj
  have hp := mgE_part hk (Part.nil N)
  rw [List.nil_append] at hF hp
  have hr := hp.2.2.2 hj
  rw [roots_id] at hr
  have h1 : ∀ x y, x < N → y < N → mgE (fun v => v) E x = mgE (fun v => v) E y := fun x y hx hy => root_of hp.1 (by omega) hx hy
  have rg : ∀ {v u L}, Adj E v u L → v < N ∧ u < N := fun hA => hA.rng hF.rng
  exact ⟨d, hk, fun x y hx hy => hF.symm x y (h1 x y hx hy), hF.self, fun x y hx hy => dist_le hk hF h1 hx hy, fun x y hx hy => hF.zero x y hx hy (h1 x y hx hy),
    fun x v u L hx hA => hF.orient x v u L hx hA (h1 x v hx (rg hA).1), fun x v hx hv hn => hF.par x v hx hv (h1 x v hx hv) hn,
    fun x v u u' L L' hx hA hA' => hF.uniq x v u u' L L' hx (h1 x v hx (rg hA).1) hA hA', fun i v hi hv => fill_eq hk hF h1 hi hv⟩
theorem not_tree {N : Nat} {E : List TEdge} (hk : Ok N E) (hl : E.length + 1 = N) (hj : allJ (fun v => v) E = false) : ∃ v, v < N ∧ fill N E 0 v = -1 := by
  have hp := mgE_part hk (Part.nil N)
  rw [List.nil_append] at hp
  have hr := hp.2.2.1 hj
  rw [roots_id] at hr
  obtain ⟨y, hy, hne⟩ := root_two hp.1 (by omega) 0 (by omega)
  refine ⟨y, hy, (Fil.fillR (by omega) hk N).neg y hy ?_⟩
  rcases (by omega : fillR E (fill0 0) N y < 0 ∨ 0 ≤ fillR E (fill0 0) N y) with h | h
  · exact h
  · exact absurd (fill_part hk hp.1 N y h) hne
end Go.Proofs.Ytfedhjfijcnpdaa.Tr
