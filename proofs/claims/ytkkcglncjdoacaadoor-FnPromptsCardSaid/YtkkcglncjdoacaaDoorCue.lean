/- Slices of cues (a whole number and two slices of whole numbers each): what one reads as; an argument of the type. Plain lemmas. -/
import Derived.Test.YtkkcglncjdoacaaDoorApp
import Derived.Test.YtkkcglncjdoacaaDoorOpen
import Derived.Test.YtkkcglncjdoacaaDoorInts
namespace Go.Proofs.YtkkcglncjdoacaaDoor
open Go.ChangeShapes Go.WideShapes Go.ChangeAt Go.RowKit Go.Joins Go.Deep
set_option maxRecDepth 20000
set_option linter.unusedSimpArgs false
set_option linter.unusedVariables false

abbrev CueV := Int × List Int × List Int
/-- v reads in w as cues. -/
def RdCue (w : World) (v : Value) (zs : List CueV) : Prop :=
  ∃ (a : Option Addr) (cap b off : Nat), v = .slice a zs.length cap ∧ zs.length ≤ cap ∧ cap ≤ 9223372036854775807 ∧ (0 < zs.length → a = some ⟨b, off, none⟩) ∧
    ∀ (k : Nat) (z : CueV), zs[k]? = some z → ∃ u1 u2, w.cell? ⟨b, off + k * 3, none⟩ = some (.int .i64 z.1) ∧ w.cell? ⟨b, off + k * 3 + 1, none⟩ = some u1 ∧ w.cell? ⟨b, off + k * 3 + 2, none⟩ = some u2 ∧ RdI w u1 z.2.1 ∧ RdI w u2 z.2.2
theorem RdCue.below {w w' : World} {v : Value} {zs : List CueV} (h : RdCue w v zs) (hb : Below w.heap.size w w') : RdCue w' v zs := by
  obtain ⟨a, cap, b, off, hv, h1, h2, h3, h4⟩ := h
  refine ⟨a, cap, b, off, hv, h1, h2, h3, fun k z hz => ?_⟩
  obtain ⟨u1, u2, c0, c1, c2, r1, r2⟩ := h4 k z hz
  exact ⟨u1, u2, cell_on hb c0, cell_on hb c1, cell_on hb c2, r1.below hb, r2.below hb⟩
theorem RdCue.shape {w : World} {v : Value} {zs : List CueV} (h : RdCue w v zs) : ∃ a cap, v = .slice a zs.length cap ∧ zs.length ≤ 9223372036854775807 := by
  obtain ⟨a, cap, b, off, hv, h1, h2, _⟩ := h
  exact ⟨a, cap, hv, by omega⟩
theorem dis_lt {y r : Value} {C : Nat} (hy : ∀ k, y.ownBlock = some k → k < C) (hr : ∀ k, r.ownBlock = some k → C ≤ k) : Dis y r := by
  rcases hk : y.ownBlock with _ | k
  · exact .inl hk
  · refine .inr fun e => ?_
    rw [hk] at e
    have := hr k e.symm
    have := hy k hk
    omega
theorem Dis.symm {u v : Value} (h : Dis u v) : Dis v u := by
  rcases hv : v.ownBlock with _ | k
  · exact .inl hv
  · refine .inr fun e => ?_
    rcases h with h | h
    · rw [hv, h] at e; simp at e
    · exact h e.symm
theorem RdI.len {w : World} {v : Value} {zs : List Int} (h : RdI w v zs) : zs.length ≤ 9223372036854775807 := by
  obtain ⟨_, _, _, _, _, h1, h2, _⟩ := h.open
  omega
section
variable {H : Type} {enc : TypeId × Value → H}
theorem rdI_of_trod {W : World} {n : Nat} {v : Value} {y : DataW H × List MemPlace} (h : DataW.trod enc Tryd.prog W 0 (fun _ => true) true n 22 [v] = some y) : ∃ zs, RdI W v zs := by
  rcases open_ints underInts underInt cellsInt h with ⟨he, hx⟩ | ⟨a2, len2, cap2, zs, he, _, hl2, hm2, hz2, hx2, hcell, hwz⟩
  · simp only [List.cons.injEq, and_true] at he
    subst he
    exact ⟨[], (OwI.nil W 0).rd⟩
  · simp only [List.cons.injEq, and_true] at he
    subst he
    simp only [ite_true] at hz2
    rw [maxLen_eq] at hm2
    have hlen : (zs.take len2).length = len2 := by rw [List.length_take]; omega
    refine ⟨zs.take len2, ?_⟩
    unfold RdI
    rw [hlen]
    by_cases h0 : len2 = 0
    · subst h0
      exact ⟨some a2, cap2, 0, 0, rfl, hl2, hm2, by simp [ints], by simp [ints]⟩
    · obtain ⟨b, off, rfl, hc2⟩ := ints_at hcell (by omega)
      refine ⟨_, cap2, b, off, rfl, hl2, hm2, fun _ => rfl, fun j u hj => ?_⟩
      rw [ints_get, List.getElem?_take] at hj
      split at hj
      · have hjl : j < zs.length := by omega
        rw [List.getElem?_eq_getElem hjl] at hj
        simp at hj
        subst hj
        rw [hc2 j hjl]
        simp [hjl]
      · simp at hj
theorem oneFieldsCue : oneCellFields Tryd.prog (match Tryd.prog.underlying 28 with | some (.struct fs) => fs | _ => #[]) = true := by kernel_rfl
theorem cellsCue : Tryd.prog.cellsOf 28 = 3 := by kernel_rfl
/-- An argument of type []laws.Cue reads as cues. -/
theorem open_rdCue {W : World} {r : Reach} {base : Nat} {v : Value} {d : DataW H} {p : List MemPlace} (hv : Value.okWide Tryd.prog W r base 35 v) (h : DataW.Trod enc Tryd.prog W 0 (fun _ => true) true 35 v d p) :
    ∃ zs : List CueV, RdCue W v zs := by
  have hu : Tryd.prog.underlying 35 = some (.slice 28) := Tryd.underlying35
  have hs := Tryd.underlying28
  have hone := oneFieldsCue
  rw [hs] at hone
  obtain ⟨a1, len, cap, rfl⟩ := okWide_slice hu hv
  obtain ⟨fuel, hf⟩ := h
  rcases open_slice_fields hu hs hone cellsCue hf with ⟨hcs, hx⟩ | ⟨a, len', cap', m, D, Pl, hcs, _, hl, hm, hmm, hx, hi⟩
  · simp [Value.cells] at hcs
    obtain ⟨rfl, rfl, rfl⟩ := hcs
    exact ⟨[], none, 0, 0, 0, rfl, Nat.le_refl _, by omega, by simp, by simp⟩
  · simp [Value.cells] at hcs
    obtain ⟨rfl, rfl, rfl⟩ := hcs
    simp only [ite_true] at hmm
    rw [maxLen_eq] at hm
    obtain ⟨zs, hzl, hz⟩ := list_of len (fun i (z : CueV) => ∃ u1 u2, W.cell? (a.add (i * 3)) = some (.int .i64 z.1) ∧ W.cell? (a.add (i * 3 + 1)) = some u1 ∧ W.cell? (a.add (i * 3 + 2)) = some u2 ∧ RdI W u1 z.2.1 ∧ RdI W u2 z.2.2) (by
      intro i hil
      obtain ⟨ys, n, _, _, _, hfl⟩ := hi i (by omega)
      obtain ⟨v0, y0, hc0, _, ht0⟩ := hfl 0 _ rfl
      obtain ⟨x0, e0, _, _⟩ := DataW.trod_int Tryd.underlying3 ht0
      simp only [List.cons.injEq, and_true] at e0
      subst e0
      obtain ⟨v1, y1, hc1, _, ht1⟩ := hfl 1 _ rfl
      obtain ⟨zs1, hr1⟩ := rdI_of_trod ht1
      obtain ⟨v2, y2, hc2, _, ht2⟩ := hfl 2 _ rfl
      obtain ⟨zs2, hr2⟩ := rdI_of_trod ht2
      exact ⟨(x0, zs1, zs2), v1, v2, by simpa using hc0, by simpa using hc1, by simpa using hc2, hr1, hr2⟩)
    by_cases h0 : len = 0
    · subst h0
      have : zs = [] := List.eq_nil_of_length_eq_zero hzl
      subst this
      exact ⟨[], some a, cap, 0, 0, rfl, hl, hm, by simp, by simp⟩
    · obtain ⟨x, hx0⟩ : ∃ x, zs[0]? = some x := ⟨_, List.getElem?_eq_getElem (by omega)⟩
      obtain ⟨_, _, hc0, _⟩ := hz 0 x hx0
      obtain ⟨b, off, spot⟩ := a
      have hspot : spot = none := by simpa [Addr.add] using World.cell?_spot hc0
      subst hspot
      refine ⟨zs, _, cap, b, off, by rw [hzl], by omega, hm, fun _ => rfl, fun k z hk => ?_⟩
      obtain ⟨u1, u2, c0, c1, c2, r1, r2⟩ := hz k z hk
      rw [Go.WideShapes.add_plain] at c0 c1 c2
      exact ⟨u1, u2, c0, by rw [Nat.add_assoc]; exact c1, by rw [Nat.add_assoc]; exact c2, r1, r2⟩
end
theorem infoCue : (Tryd.prog.info? 31).map (fun i => (i.zero, i.size, i.bytes)) = some (some (.agg #[.int .i64 0, .slice none 0 0, .slice none 0 0]), 3, 56) := by kernel_rfl
theorem underCues : Tryd.prog.underlying 38 = some (.slice 31) := Tryd.underlying38
end Go.Proofs.YtkkcglncjdoacaaDoor
