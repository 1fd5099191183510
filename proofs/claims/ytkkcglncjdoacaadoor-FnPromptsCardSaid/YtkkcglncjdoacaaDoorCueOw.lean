/- Slices of cues of the call's own: how they go on behind writes, and an append of one cue. Plain lemmas. -/
import Derived.Test.YtkkcglncjdoacaaDoorCueH
import Derived.Test.YtkkcglncjdoacaaDoorDraw
namespace Go.Proofs.YtkkcglncjdoacaaDoor
open Go.ChangeShapes Go.WideShapes Go.ChangeAt Go.RowKit Go.Joins
set_option linter.unusedSimpArgs false
set_option linter.unusedVariables false

/-- u is a slice of the call's own, apart from v, its block before T. -/
def InC (w : World) (B T : Nat) (v u : Value) (l : List Int) : Prop := OwI w B u l ∧ Dis u v ∧ ∀ k, u.ownBlock = some k → k < T
/-- v is a slice of cues, all of the call's own, all blocks in B .. T. -/
def OwCue (w : World) (B T : Nat) (v : Value) (zs : List CueV) : Prop :=
  (∀ k, v.ownBlock = some k → k < T) ∧ ∃ xs, w.ownsRow B 31 3 v zs.length xs ∧ ∀ (j : Nat) (z : CueV), zs[j]? = some z →
    ∃ u1 u2, xs[j * 3]? = some (.int .i64 z.1) ∧ xs[j * 3 + 1]? = some u1 ∧ xs[j * 3 + 2]? = some u2 ∧ InC w B T v u1 z.2.1 ∧ InC w B T v u2 z.2.2
theorem InC.up {w : World} {B T T' : Nat} {v u : Value} {l : List Int} (h : InC w B T v u l) (hT : T ≤ T') : InC w B T' v u l := ⟨h.1, h.2.1, fun k hk => Nat.lt_of_lt_of_le (h.2.2 k hk) hT⟩
theorem OwCue.up {w : World} {B T T' : Nat} {v : Value} {zs : List CueV} (h : OwCue w B T v zs) (hT : T ≤ T') : OwCue w B T' v zs := by
  obtain ⟨h0, xs, h1, h2⟩ := h
  refine ⟨fun k hk => Nat.lt_of_lt_of_le (h0 k hk) hT, xs, h1, fun j z hz => ?_⟩
  obtain ⟨u1, u2, c0, c1, c2, i1, i2⟩ := h2 j z hz
  exact ⟨u1, u2, c0, c1, c2, i1.up hT, i2.up hT⟩
theorem OwCue.below {w w' : World} {B T : Nat} {v : Value} {zs : List CueV} (h : OwCue w B T v zs) (hb : Below w.heap.size w w') : OwCue w' B T v zs := by
  obtain ⟨h0, xs, h1, h2⟩ := h
  refine ⟨h0, xs, own_below h1 hb, fun j z hz => ?_⟩
  obtain ⟨u1, u2, c0, c1, c2, i1, i2⟩ := h2 j z hz
  exact ⟨u1, u2, c0, c1, c2, ⟨i1.1.below hb, i1.2⟩, ⟨i2.1.below hb, i2.2⟩⟩
/-- Behind a write to a block before B or from T on. -/
theorem OwCue.kept {w w' : World} {B T : Nat} {v x : Value} {zs : List CueV} (h : OwCue w B T v zs) (hg : w.grownBy w' x.ownBlock) (hx : ∀ k, x.ownBlock = some k → k < B ∨ T ≤ k) : OwCue w' B T v zs := by
  obtain ⟨h0, xs, h1, h2⟩ := h
  have hd : ∀ u : Value, (∀ k, u.ownBlock = some k → B ≤ k ∧ k < T) → Dis u x := by
    intro u hu
    rcases hk : u.ownBlock with _ | k
    · exact .inl hk
    · refine .inr fun e => ?_
      rw [hk] at e
      have h3 := hu k hk
      rcases hx k e.symm with h4 | h4 <;> omega
  refine ⟨h0, xs, World.ownsRow.kept h1 hg (hd v fun k hk => ⟨(World.ownsRow.lt h1 k hk).1, h0 k hk⟩), fun j z hz => ?_⟩
  obtain ⟨u1, u2, c0, c1, c2, i1, i2⟩ := h2 j z hz
  exact ⟨u1, u2, c0, c1, c2, ⟨i1.1.kept hg (hd u1 fun k hk => ⟨(i1.1.lt k hk).1, i1.2.2 k hk⟩), i1.2⟩, ⟨i2.1.kept hg (hd u2 fun k hk => ⟨(i2.1.lt k hk).1, i2.2.2 k hk⟩), i2.2⟩⟩
theorem OwCue.rd {w : World} {B T : Nat} {v : Value} {zs : List CueV} (h : OwCue w B T v zs) : RdCue w v zs := by
  obtain ⟨h0, xs, h1, h2⟩ := h
  have hr := Rd.of_own h1
  obtain ⟨a, cap, b, off, hv, q1, q2, q3, q4⟩ := hr
  have hl : xs.length = zs.length * 3 := h1.1
  refine ⟨a, cap, b, off, hv, q1, q2, fun h => q3 (by omega), fun k z hz => ?_⟩
  obtain ⟨u1, u2, c0, c1, c2, i1, i2⟩ := h2 k z hz
  exact ⟨u1, u2, q4 _ _ c0, by rw [Nat.add_assoc]; exact q4 _ _ c1, by rw [Nat.add_assoc]; exact q4 _ _ c2, i1.1.rd, i2.1.rd⟩
theorem OwCue.empty (w : World) : OwCue (w.alloc (.cells #[] 31)) w.heap.size (w.heap.size + 1) (.slice (some ⟨w.heap.size, 0, none⟩) 0 0) [] :=
  ⟨fun k hk => by simp [Value.ownBlock] at hk; omega, [], World.ownsRow_lit w #[] 0 (Nat.le_refl _) (by omega) rfl, fun j z hz => by simp at hz⟩
theorem own_one {w : World} {B : Nat} {u : Value} {zs : List Int} (h : OwI w B u zs) : u.oneCell' = true := by
  rcases h.slice with ⟨rfl, _⟩ | ⟨g, cap, rfl, _⟩ <;> rfl
/-- append(out, x). -/
theorem wpList_pushC {ops : Array Oper} {rest : List Oper} {o : Oper} {a : Act} {Q : Exit → Act → World → Prop} (hgd : o.guard = none) (s x : Operand)
    (ho : o.op = .call { callee := .builtin .append, args := #[s, x], argTypes := #[38, 38] }) (w : World) (z : CueV) (u1 u2 : Value)
    (B T : Nat) (v : Value) (zs : List CueV) (hs : a.eval s = v) (hown : OwCue w B T v zs) (hx : a.eval x = .slice (some ⟨w.heap.size, 0, none⟩) 1 1)
    (i1 : OwI w B u1 z.2.1) (d1 : Dis u1 v) (i2 : OwI w B u2 z.2.2) (d2 : Dis u2 v)
    (hsmall : zs.length ≤ 1099511627775) (hbase : B ≤ w.heap.size) (hT : T ≤ w.heap.size)
    (h : ∀ v' w', OwCue w' B w'.heap.size v' (zs ++ [z]) → w.grownBy w' v.ownBlock → wpList Tryd.prog ops Q rest (a.put o.dst v') w') :
    wpList Tryd.prog ops Q (o :: rest) a (w.alloc (.cells #[.int .i64 z.1, u1, u2] 31)) := by
  obtain ⟨h0, xs, h1, h2⟩ := hown
  have hxl : xs.length = zs.length * 3 := h1.1
  refine wpList_app hgd s x _ ho _ B 31 (.agg #[.int .i64 0, .slice none 0 0, .slice none 0 0]) 3 56 underCues infoCue rfl (by decide) v zs.length xs hs (World.ownsRow.alloc h1 _) _ 1 [.int .i64 z.1, u1, u2] hx (rd_alloc w #[.int .i64 z.1, u1, u2] 31 1 (by decide)) rfl
    (by intro c hc; simp at hc; rcases hc with rfl | rfl | rfl; · rfl
        · exact own_one i1
        · exact own_one i2) (by omega) (by decide) (by simp; omega) fun v' w' h3 h4 h5 => ?_
  have hws : w.heap.size + 1 ≤ w'.heap.size := by have := h4.size; simpa using this
  have hal := below_alloc1 w (.cells #[.int .i64 z.1, u1, u2] 31)
  have hvlt := World.ownsRow.lt h3
  -- a slice of the call's own, apart from v, its block old: it goes on, apart from v' too
  have hin : ∀ (u : Value) (l : List Int), OwI w B u l → Dis u v → InC w' B w'.heap.size v' u l := by
    intro u l hu hd
    refine ⟨(hu.below hal).kept h4 hd, ?_, fun k hk => by have := (hu.lt k hk).2; omega⟩
    rcases h5 with h5 | h5
    · unfold Dis
      rw [h5]
      exact hd
    · refine dis_lt (C := w.heap.size) (fun k hk => (hu.lt k hk).2) (fun k hk => by rw [h5] at hk; simp at hk; omega)
  refine h v' w' ⟨fun k hk => (hvlt k hk).2, xs ++ [.int .i64 z.1, u1, u2], by rw [List.length_append]; exact h3, fun j y hy => ?_⟩ (grown_alloc h4)
  by_cases hj : j < zs.length
  · rw [List.getElem?_append_left hj] at hy
    obtain ⟨y1, y2, c0, c1, c2, k1, k2⟩ := h2 j y hy
    refine ⟨y1, y2, ?_, ?_, ?_, hin y1 _ k1.1 k1.2.1, hin y2 _ k2.1 k2.2.1⟩
    · rw [List.getElem?_append_left (by omega)]; exact c0
    · rw [List.getElem?_append_left (by omega)]; exact c1
    · rw [List.getElem?_append_left (by omega)]; exact c2
  · rw [List.getElem?_append_right (by omega)] at hy
    have hj0 : j - zs.length = 0 := by
      rcases Nat.eq_zero_or_pos (j - zs.length) with h0 | h0
      · exact h0
      · rw [List.getElem?_eq_none (by simp; omega)] at hy; simp at hy
    rw [hj0] at hy
    simp at hy
    subst hy
    obtain rfl : j = zs.length := by omega
    refine ⟨u1, u2, ?_, ?_, ?_, hin u1 _ i1 d1, hin u2 _ i2 d2⟩
    · rw [List.getElem?_append_right (by omega), hxl, Nat.sub_self]; rfl
    · rw [List.getElem?_append_right (by omega), hxl, show zs.length * 3 + 1 - zs.length * 3 = 1 by omega]; rfl
    · rw [List.getElem?_append_right (by omega), hxl, show zs.length * 3 + 2 - zs.length * 3 = 2 by omega]; rfl
end Go.Proofs.YtkkcglncjdoacaaDoor
