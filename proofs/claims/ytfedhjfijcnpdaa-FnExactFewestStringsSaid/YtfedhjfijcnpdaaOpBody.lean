/- Bodies by value as arguments of laws. -/
import Derived.Test.YtfedhjfijcnpdaaHlBody
namespace Go.Proofs.Ytfedhjfijcnpdaa
open Go.ChangeShapes Go.WideShapes Go.ChangeAt Go.RowKit Go.Joins Go.Deep
set_option linter.unusedSimpArgs false
set_option linter.unusedVariables false
section
variable {H : Type} {enc : TypeId × Value → H}
/-- An argument of type []laws.Limb reads as a list. -/
theorem rdLimb_of_trod {W : World} {n : Nat} {v : Value} {y : DataW H × List MemPlace} (h : DataW.trod enc Try.prog W 0 (fun _ => true) true n 43 [v] = some y) :
    ∃ zs : List (Int × Int × Int), RdLimb W v zs := by
  have hu : Try.prog.underlying 43 = some (.slice 82) := Try.underlying43
  have hs := Try.underlying82
  have hone := oneFieldsLimb
  rw [hs] at hone
  rcases open_slice_fields hu hs hone cellsLimb h with ⟨hcs, hx⟩ | ⟨a, len, cap, m, D, Pl, hcs, _, hl, hm, hmm, hx, hi⟩
  · simp only [List.cons.injEq, and_true] at hcs
    subst hcs
    exact ⟨[], (OwLimb.nil W 0).rd⟩
  · simp only [List.cons.injEq, and_true] at hcs
    subst hcs
    simp only [ite_true] at hmm
    rw [maxLen_eq] at hm
    obtain ⟨zs, hzl, hz⟩ := list_of len (fun i (x : Int × Int × Int) => W.cell? (a.add (i * 3)) = some (.int .i64 x.1) ∧ W.cell? (a.add (i * 3 + 1)) = some (.int .i64 x.2.1) ∧ W.cell? (a.add (i * 3 + 2)) = some (.int .i64 x.2.2)) (by
      intro i hil
      obtain ⟨ys, n, _, _, _, hfl⟩ := hi i (by omega)
      obtain ⟨v0, y0, hc0, _, ht0⟩ := hfl 0 _ rfl
      obtain ⟨x0, e0, _, _⟩ := DataW.trod_int Try.underlying3 ht0
      simp only [List.cons.injEq, and_true] at e0
      subst e0
      obtain ⟨v1, y1, hc1, _, ht1⟩ := hfl 1 _ rfl
      obtain ⟨x1, e1, _, _⟩ := DataW.trod_int Try.underlying3 ht1
      simp only [List.cons.injEq, and_true] at e1
      subst e1
      obtain ⟨v2, y2, hc2, _, ht2⟩ := hfl 2 _ rfl
      obtain ⟨x2, e2, _, _⟩ := DataW.trod_int Try.underlying3 ht2
      simp only [List.cons.injEq, and_true] at e2
      subst e2
      exact ⟨(x0, x1, x2), by simpa using hc0, by simpa using hc1, by simpa using hc2⟩)
    refine ⟨zs, ?_⟩
    unfold RdLimb
    rw [hzl]
    by_cases h0 : len = 0
    · subst h0
      have : zs = [] := List.eq_nil_of_length_eq_zero hzl
      subst this
      exact ⟨some a, cap, 0, 0, rfl, hl, hm, by simp [flLimb], by simp [flLimb]⟩
    · obtain ⟨x, hx0⟩ : ∃ x, zs[0]? = some x := ⟨_, List.getElem?_eq_getElem (by omega)⟩
      have hc0 := (hz 0 x hx0).1
      obtain ⟨b, off, spot⟩ := a
      have hspot : spot = none := by simpa [Addr.add] using World.cell?_spot hc0
      subst hspot
      refine ⟨_, cap, b, off, rfl, hl, hm, fun _ => rfl, fun j u hj => ?_⟩
      have hq : j = j / 3 * 3 + j % 3 := by omega
      have hr : j % 3 < 3 := Nat.mod_lt _ (by omega)
      generalize hqq : j / 3 = q at hq
      generalize hrr : j % 3 = r at hq hr
      subst hq
      clear hqq hrr
      match r, hr with
      | 0, _ =>
        rw [Nat.add_zero, flLimb_get0] at hj
        obtain ⟨y, hy, rfl⟩ := Option.map_eq_some_iff.1 hj
        have := (hz q y hy).1
        rw [Go.WideShapes.add_plain] at this
        exact this
      | 1, _ =>
        rw [flLimb_get1] at hj
        obtain ⟨y, hy, rfl⟩ := Option.map_eq_some_iff.1 hj
        have := (hz q y hy).2.1
        rw [Go.WideShapes.add_plain] at this
        exact this
      | 2, _ =>
        rw [flLimb_get2] at hj
        obtain ⟨y, hy, rfl⟩ := Option.map_eq_some_iff.1 hj
        have := (hz q y hy).2.2
        rw [Go.WideShapes.add_plain] at this
        exact this
end
end Go.Proofs.Ytfedhjfijcnpdaa
