/- Slices of cues of the call's own whose lists lie in blocks of their own, pairwise: an append, a write into one. Plain lemmas. -/
import Derived.Test.YtkkcglncjdoacaaDoorCueOw
namespace Go.Proofs.YtkkcglncjdoacaaDoor
open Go.ChangeShapes Go.WideShapes Go.ChangeAt Go.RowKit Go.Joins
set_option linter.unusedSimpArgs false
set_option linter.unusedVariables false

/-- The lists of different cues lie in different blocks. -/
def Apart3 (xs : List Value) : Prop := ∀ (i j : Nat) (u u' : Value), i < j → (xs[i * 3 + 1]? = some u ∨ xs[i * 3 + 2]? = some u) → (xs[j * 3 + 1]? = some u' ∨ xs[j * 3 + 2]? = some u') → Dis u u'
def OwCD (w : World) (B T : Nat) (v : Value) (zs : List CueV) : Prop :=
  (∀ k, v.ownBlock = some k → k < T) ∧ ∃ xs, w.ownsRow B 31 3 v zs.length xs ∧ (∀ (j : Nat) (z : CueV), zs[j]? = some z →
    ∃ u1 u2, xs[j * 3]? = some (.int .i64 z.1) ∧ xs[j * 3 + 1]? = some u1 ∧ xs[j * 3 + 2]? = some u2 ∧ InC w B T v u1 z.2.1 ∧ InC w B T v u2 z.2.2 ∧ Dis u1 u2) ∧ Apart3 xs
theorem OwCD.own {w : World} {B T : Nat} {v : Value} {zs : List CueV} (h : OwCD w B T v zs) : OwCue w B T v zs := by
  obtain ⟨h0, xs, h1, h2, _⟩ := h
  refine ⟨h0, xs, h1, fun j z hz => ?_⟩
  obtain ⟨u1, u2, c0, c1, c2, i1, i2, _⟩ := h2 j z hz
  exact ⟨u1, u2, c0, c1, c2, i1, i2⟩
theorem OwCD.rd {w : World} {B T : Nat} {v : Value} {zs : List CueV} (h : OwCD w B T v zs) : RdCue w v zs := h.own.rd
theorem OwCD.up {w : World} {B T T' : Nat} {v : Value} {zs : List CueV} (h : OwCD w B T v zs) (hT : T ≤ T') : OwCD w B T' v zs := by
  obtain ⟨h0, xs, h1, h2, h3⟩ := h
  refine ⟨fun k hk => Nat.lt_of_lt_of_le (h0 k hk) hT, xs, h1, fun j z hz => ?_, h3⟩
  obtain ⟨u1, u2, c0, c1, c2, i1, i2, d⟩ := h2 j z hz
  exact ⟨u1, u2, c0, c1, c2, i1.up hT, i2.up hT, d⟩
theorem OwCD.base {w : World} {B B' T : Nat} {v : Value} {zs : List CueV} (h : OwCD w B T v zs) (hB : B' ≤ B) : OwCD w B' T v zs := by
  obtain ⟨h0, xs, h1, h2, h3⟩ := h
  refine ⟨h0, xs, own_base h1 hB, fun j z hz => ?_, h3⟩
  obtain ⟨u1, u2, c0, c1, c2, i1, i2, d⟩ := h2 j z hz
  exact ⟨u1, u2, c0, c1, c2, ⟨i1.1.base hB, i1.2⟩, ⟨i2.1.base hB, i2.2⟩, d⟩
theorem OwCD.below {w w' : World} {B T : Nat} {v : Value} {zs : List CueV} (h : OwCD w B T v zs) (hb : Below w.heap.size w w') : OwCD w' B T v zs := by
  obtain ⟨h0, xs, h1, h2, h3⟩ := h
  refine ⟨h0, xs, own_below h1 hb, fun j z hz => ?_, h3⟩
  obtain ⟨u1, u2, c0, c1, c2, i1, i2, d⟩ := h2 j z hz
  exact ⟨u1, u2, c0, c1, c2, ⟨i1.1.below hb, i1.2⟩, ⟨i2.1.below hb, i2.2⟩, d⟩
theorem OwCD.kept {w w' : World} {B T : Nat} {v x : Value} {zs : List CueV} (h : OwCD w B T v zs) (hg : w.grownBy w' x.ownBlock) (hx : ∀ k, x.ownBlock = some k → k < B ∨ T ≤ k) : OwCD w' B T v zs := by
  obtain ⟨h0, xs, h1, h2, h3⟩ := h
  have hd : ∀ u : Value, (∀ k, u.ownBlock = some k → B ≤ k ∧ k < T) → Dis u x := by
    intro u hu
    rcases hk : u.ownBlock with _ | k
    · exact .inl hk
    · refine .inr fun e => ?_
      rw [hk] at e
      have h3 := hu k hk
      rcases hx k e.symm with h4 | h4 <;> omega
  refine ⟨h0, xs, World.ownsRow.kept h1 hg (hd v fun k hk => ⟨(World.ownsRow.lt h1 k hk).1, h0 k hk⟩), fun j z hz => ?_, h3⟩
  obtain ⟨u1, u2, c0, c1, c2, i1, i2, d⟩ := h2 j z hz
  exact ⟨u1, u2, c0, c1, c2, ⟨i1.1.kept hg (hd u1 fun k hk => ⟨(i1.1.lt k hk).1, i1.2.2 k hk⟩), i1.2⟩, ⟨i2.1.kept hg (hd u2 fun k hk => ⟨(i2.1.lt k hk).1, i2.2.2 k hk⟩), i2.2⟩, d⟩
theorem OwCD.empty (w : World) : OwCD (w.alloc (.cells #[] 31)) w.heap.size (w.heap.size + 1) (.slice (some ⟨w.heap.size, 0, none⟩) 0 0) [] :=
  ⟨fun k hk => by simp [Value.ownBlock] at hk; omega, [], World.ownsRow_lit w #[] 0 (Nat.le_refl _) (by omega) rfl, fun j z hz => by simp at hz, fun i j u u' _ hu => by simp at hu⟩
theorem OwCD.nil (w : World) (B T : Nat) : OwCD w B T (.slice none 0 0) [] :=
  ⟨fun k hk => by simp [Value.ownBlock] at hk, [], ⟨rfl, .inl ⟨rfl, rfl⟩⟩, fun j z hz => by simp at hz, fun i j u u' _ hu => by simp at hu⟩
theorem OwCD.slice {w : World} {B T : Nat} {v : Value} {zs : List CueV} (h : OwCD w B T v zs) : (v = .slice none 0 0 ∧ zs = []) ∨ ∃ g cap, v = .slice (some ⟨g, 0, none⟩) zs.length cap ∧ B ≤ g ∧ g < w.heap.size ∧ zs.length ≤ cap ∧ cap ≤ 9223372036854775807 := by
  obtain ⟨_, xs, h1, _⟩ := h
  rcases h1.2 with ⟨rfl, h0⟩ | ⟨g, cap, cur, rfl, hg, hh, hn, hm, _⟩
  · exact .inl ⟨rfl, List.eq_nil_of_length_eq_zero h0⟩
  · exact .inr ⟨g, cap, rfl, hg, (Array.getElem?_eq_some_iff.1 hh).1, hn, by rw [maxLen_eq] at hm; exact hm⟩
/-- append(out, x), x's lists from T on. -/
theorem wpList_pushCD {ops : Array Oper} {rest : List Oper} {o : Oper} {a : Act} {Q : Exit → Act → World → Prop} (hgd : o.guard = none) (s x : Operand)
    (ho : o.op = .call { callee := .builtin .append, args := #[s, x], argTypes := #[38, 38] }) (w : World) (z : CueV) (u1 u2 : Value)
    (B T : Nat) (v : Value) (zs : List CueV) (hs : a.eval s = v) (hown : OwCD w B T v zs) (hx : a.eval x = .slice (some ⟨w.heap.size, 0, none⟩) 1 1)
    (i1 : OwI w B u1 z.2.1) (n1 : ∀ k, u1.ownBlock = some k → T ≤ k) (i2 : OwI w B u2 z.2.2) (n2 : ∀ k, u2.ownBlock = some k → T ≤ k) (d12 : Dis u1 u2)
    (hsmall : zs.length ≤ 1099511627775) (hbase : B ≤ w.heap.size) (hT : T ≤ w.heap.size)
    (h : ∀ v' w', OwCD w' B w'.heap.size v' (zs ++ [z]) → w.grownBy w' v.ownBlock → (v'.ownBlock = v.ownBlock ∨ ∃ k, v'.ownBlock = some k ∧ w.heap.size ≤ k) → wpList Tryd.prog ops Q rest (a.put o.dst v') w') :
    wpList Tryd.prog ops Q (o :: rest) a (w.alloc (.cells #[.int .i64 z.1, u1, u2] 31)) := by
  obtain ⟨h0, xs, h1, h2, h6⟩ := hown
  have hxl : xs.length = zs.length * 3 := h1.1
  have d1 : Dis u1 v := (dis_lt h0 n1).symm
  have d2 : Dis u2 v := (dis_lt h0 n2).symm
  refine wpList_app hgd s x _ ho _ B 31 (.agg #[.int .i64 0, .slice none 0 0, .slice none 0 0]) 3 56 underCues infoCue rfl (by decide) v zs.length xs hs (World.ownsRow.alloc h1 _) _ 1 [.int .i64 z.1, u1, u2] hx (rd_alloc w #[.int .i64 z.1, u1, u2] 31 1 (by decide)) rfl
    (by intro c hc; simp at hc; rcases hc with rfl | rfl | rfl; · rfl
        · exact own_one i1
        · exact own_one i2) (by omega) (by decide) (by simp; omega) fun v' w' h3 h4 h5 => ?_
  have hws : w.heap.size + 1 ≤ w'.heap.size := by have := h4.size; simpa using this
  have hal := below_alloc1 w (.cells #[.int .i64 z.1, u1, u2] 31)
  have hvlt := World.ownsRow.lt h3
  have hin : ∀ (u : Value) (l : List Int), OwI w B u l → Dis u v → InC w' B w'.heap.size v' u l := by
    intro u l hu hd
    refine ⟨(hu.below hal).kept h4 hd, ?_, fun k hk => by have := (hu.lt k hk).2; omega⟩
    rcases h5 with h5 | h5
    · unfold Dis
      rw [h5]
      exact hd
    · refine dis_lt (C := w.heap.size) (fun k hk => (hu.lt k hk).2) (fun k hk => by rw [h5] at hk; simp at hk; omega)
  refine h v' w' ⟨fun k hk => (hvlt k hk).2, xs ++ [.int .i64 z.1, u1, u2], by rw [List.length_append]; exact h3, fun j y hy => ?_, ?_⟩ (grown_alloc h4) (h5.imp id fun e => ⟨_, e, by simp⟩)
  · by_cases hj : j < zs.length
    · rw [List.getElem?_append_left hj] at hy
      obtain ⟨y1, y2, c0, c1, c2, k1, k2, dd⟩ := h2 j y hy
      refine ⟨y1, y2, ?_, ?_, ?_, hin y1 _ k1.1 k1.2.1, hin y2 _ k2.1 k2.2.1, dd⟩
      · rw [List.getElem?_append_left (by omega)]; exact c0
      · rw [List.getElem?_append_left (by omega)]; exact c1
      · rw [List.getElem?_append_left (by omega)]; exact c2
    · rw [List.getElem?_append_right (by omega)] at hy
      have hj0 : j - zs.length = 0 := by
        rcases Nat.eq_zero_or_pos (j - zs.length) with h0 | h0
        · exact h0
        · rw [List.getElem?_eq_none (by simp; omega)] at hy; simp at hy
      rw [hj0] at hy
      simp at hy
      subst hy
      obtain rfl : j = zs.length := by omega
      refine ⟨u1, u2, ?_, ?_, ?_, hin u1 _ i1 d1, hin u2 _ i2 d2, d12⟩
      · rw [List.getElem?_append_right (by omega), hxl, Nat.sub_self]; rfl
      · rw [List.getElem?_append_right (by omega), hxl, show zs.length * 3 + 1 - zs.length * 3 = 1 by omega]; rfl
      · rw [List.getElem?_append_right (by omega), hxl, show zs.length * 3 + 2 - zs.length * 3 = 2 by omega]; rfl
  · -- pairwise
    have hold : ∀ (i : Nat) (u : Value), i < zs.length → (xs[i * 3 + 1]? = some u ∨ xs[i * 3 + 2]? = some u) → ∀ k, u.ownBlock = some k → k < T := by
      intro i u hi hu k hk
      obtain ⟨y, hy⟩ : ∃ y, zs[i]? = some y := ⟨_, List.getElem?_eq_getElem hi⟩
      obtain ⟨y1, y2, c0, c1, c2, k1, k2, dd⟩ := h2 i y hy
      rcases hu with hu | hu
      · rw [c1] at hu; cases hu; exact k1.2.2 k hk
      · rw [c2] at hu; cases hu; exact k2.2.2 k hk
    intro i j u u' hij hu hu'
    have hjl : j ≤ zs.length := by
      rcases hu' with hu' | hu' <;> have := (List.getElem?_eq_some_iff.1 hu').1 <;> simp only [List.length_append, List.length_cons, List.length_nil] at this <;> omega
    have hil : i < zs.length := by omega
    rw [List.getElem?_append_left (by omega), List.getElem?_append_left (by omega)] at hu
    by_cases hj : j < zs.length
    · rw [List.getElem?_append_left (by omega), List.getElem?_append_left (by omega)] at hu'
      exact h6 i j u u' hij hu hu'
    · obtain rfl : j = zs.length := by omega
      rw [List.getElem?_append_right (by omega), List.getElem?_append_right (by omega), hxl, show zs.length * 3 + 1 - zs.length * 3 = 1 by omega, show zs.length * 3 + 2 - zs.length * 3 = 2 by omega] at hu'
      refine dis_lt (hold i u hil hu) ?_
      simp only [List.getElem?_cons_succ, List.getElem?_cons_zero, Option.some.injEq] at hu'
      rcases hu' with rfl | rfl
      · exact n1
      · exact n2
end Go.Proofs.YtkkcglncjdoacaaDoor
