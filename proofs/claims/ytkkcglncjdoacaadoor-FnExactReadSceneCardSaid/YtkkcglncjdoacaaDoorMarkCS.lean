/- The laws' marks on a slice of cues of the call's own: markCueS writes, heldCueS reads them back. -/
import Derived.Test.YtkkcglncjdoacaaDoorOwCD
import Derived.Test.YtkkcglncjdoacaaDoorInts
namespace Go.Proofs.YtkkcglncjdoacaaDoor
open Go.ChangeShapes Go.WideShapes Go.ChangeAt Go.RowKit Go.Joins
set_option linter.unusedSimpArgs false
set_option linter.unusedVariables false
set_option maxRecDepth 20000

/-- How many marks. -/
def totM : List CueV → Nat
  | [] => 0
  | z :: r => 1 + z.2.1.length + z.2.2.length + totM r
theorem totM_append (a b : List CueV) : totM (a ++ b) = totM a + totM b := by
  induction a with
  | nil => simp [totM]
  | cons z r ih => simp only [List.cons_append, totM, ih]; omega
/-- Marks in turn. -/
def mkC (q : Int) : List CueV → List CueV
  | [] => []
  | z :: r => (q, marks (q + 1) z.2.1.length, marks (q + 1 + z.2.1.length) z.2.2.length) :: mkC (q + 1 + z.2.1.length + z.2.2.length) r
theorem mkC_append (q : Int) (a b : List CueV) : mkC q (a ++ b) = mkC q a ++ mkC (q + totM a) b := by
  induction a generalizing q with
  | nil => simp [mkC, totM]
  | cons y r ih =>
    simp only [List.cons_append, mkC, ih, totM]
    congr 3
    omega
theorem mkC_length (q : Int) (a : List CueV) : (mkC q a).length = a.length := by
  induction a generalizing q with
  | nil => rfl
  | cons y r ih => simp [mkC, ih]
theorem mkC_get (q : Int) (a : List CueV) (k : Nat) : (mkC q a)[k]? = (a[k]?).map fun z => (q + totM (a.take k), marks (q + totM (a.take k) + 1) z.2.1.length, marks (q + totM (a.take k) + 1 + z.2.1.length) z.2.2.length) := by
  induction a generalizing q k with
  | nil => simp [mkC]
  | cons y r ih =>
    cases k with
    | zero => simp [mkC, totM]
    | succ k =>
      simp only [mkC, List.getElem?_cons_succ, ih, List.take_succ_cons, totM]
      congr
      funext z
      rw [show q + 1 + (y.2.1.length : Int) + (y.2.2.length : Int) + (totM (r.take k) : Int) = q + ((1 + y.2.1.length + y.2.2.length + totM (r.take k) : Nat) : Int) by omega]
theorem OwCD.tick {w : World} {B T g cap n : Nat} {zs : List CueV} (h : OwCD w B T (.slice (some ⟨g, 0, none⟩) n cap) zs) (hn : zs.length = n) {k : Nat} {z : CueV} (hk : zs[k]? = some z) (x : Int) :
    w.frozen? ⟨g, k * 3, none⟩ = false ∧ w.cell? ⟨g, k * 3, none⟩ = some (.int .i64 z.1) ∧ OwCD (w.setCell ⟨g, k * 3, none⟩ (.int .i64 x)) B T (.slice (some ⟨g, 0, none⟩) n cap) (zs.set k (x, z.2)) ∧
      w.grownBy (w.setCell ⟨g, k * 3, none⟩ (.int .i64 x)) (some g) := by
  subst hn
  obtain ⟨h0, xs, h1, h2, h3⟩ := h
  have hkl := (List.getElem?_eq_some_iff.1 hk).1
  obtain ⟨u1, u2, c0, c1, c2, i1, i2, d⟩ := h2 k z hk
  have hs := World.ownsRow.stored h1 (k * 3) (.int .i64 x)
  have hxl : xs.length = zs.length * 3 := h1.1
  have n1 : ∀ i : Nat, k * 3 ≠ i * 3 + 1 := by intro i; omega
  have n2 : ∀ i : Nat, k * 3 ≠ i * 3 + 2 := by intro i; omega
  have hIn : ∀ (u : Value) (l : List Int), InC w B T (.slice (some ⟨g, 0, none⟩) zs.length cap) u l → InC (w.setCell ⟨g, k * 3, none⟩ (.int .i64 x)) B T (.slice (some ⟨g, 0, none⟩) zs.length cap) u l := by
    intro u l i
    have hg : w.grownBy (w.setCell ⟨g, k * 3, none⟩ (.int .i64 x)) (Value.slice (some ⟨g, 0, none⟩) zs.length cap).ownBlock := hs.2
    exact ⟨i.1.kept hg i.2.1, i.2⟩
  refine ⟨World.ownsRow.frozenAt h1 _, by rw [World.ownsRow.cellAt h1 _ (by omega)]; exact c0, ⟨h0, xs.set (k * 3) (.int .i64 x), by rw [List.length_set]; exact hs.1, fun j y hy => ?_, ?_⟩, hs.2⟩
  · rw [List.getElem?_set] at hy
    by_cases hj : k = j
    · subst hj
      rw [if_pos rfl, if_pos hkl] at hy
      cases hy
      refine ⟨u1, u2, ?_, ?_, ?_, hIn _ _ i1, hIn _ _ i2, d⟩
      · rw [List.getElem?_set_self (by omega)]
      · rw [List.getElem?_set_ne (n1 k)]; exact c1
      · rw [List.getElem?_set_ne (n2 k)]; exact c2
    · rw [if_neg hj] at hy
      obtain ⟨y1, y2, e0, e1, e2, j1, j2, dd⟩ := h2 j y hy
      refine ⟨y1, y2, ?_, ?_, ?_, hIn _ _ j1, hIn _ _ j2, dd⟩
      · rw [List.getElem?_set_ne (by omega)]; exact e0
      · rw [List.getElem?_set_ne (n1 j)]; exact e1
      · rw [List.getElem?_set_ne (n2 j)]; exact e2
  · intro i j u u' hij hu hu'
    rw [List.getElem?_set_ne (n1 i), List.getElem?_set_ne (n2 i)] at hu
    rw [List.getElem?_set_ne (n1 j), List.getElem?_set_ne (n2 j)] at hu'
    exact h3 i j u u' hij hu hu'
theorem OwCD.at1 {w : World} {B T g cap n : Nat} {zs : List CueV} (h : OwCD w B T (.slice (some ⟨g, 0, none⟩) n cap) zs) (hn : zs.length = n) {k : Nat} {z : CueV} (hk : zs[k]? = some z) :
    ∃ u, w.cell? ⟨g, k * 3 + 1, none⟩ = some u ∧ OwI w B u z.2.1 ∧ ∀ w1 l, OwI w1 B u l → w.grownBy w1 u.ownBlock → OwCD w1 B T (.slice (some ⟨g, 0, none⟩) n cap) (zs.set k (z.1, l, z.2.2)) := by
  subst hn
  obtain ⟨h0, xs, h1, h2, h3⟩ := h
  have hkl := (List.getElem?_eq_some_iff.1 hk).1
  obtain ⟨u1, u2, c0, c1, c2, i1, i2, d⟩ := h2 k z hk
  refine ⟨u1, by rw [World.ownsRow.cellAt h1 _ (by omega)]; exact c1, i1.1, fun w1 l ho hg => ⟨h0, xs, by rw [List.length_set]; exact World.ownsRow.kept h1 hg i1.2.1.symm, fun j y hy => ?_, h3⟩⟩
  rw [List.getElem?_set] at hy
  by_cases hj : k = j
  · subst hj
    rw [if_pos rfl, if_pos hkl] at hy
    cases hy
    exact ⟨u1, u2, c0, c1, c2, ⟨ho, i1.2⟩, ⟨i2.1.kept hg d.symm, i2.2⟩, d⟩
  · rw [if_neg hj] at hy
    obtain ⟨y1, y2, e0, e1, e2, j1, j2, dd⟩ := h2 j y hy
    have hd : ∀ u : Value, (xs[j * 3 + 1]? = some u ∨ xs[j * 3 + 2]? = some u) → Dis u u1 := by
      intro u hu
      rcases Nat.lt_or_gt_of_ne hj with hlt | hlt
      · exact (h3 k j u1 u hlt (.inl c1) hu).symm
      · exact h3 j k u u1 hlt hu (.inl c1)
    exact ⟨y1, y2, e0, e1, e2, ⟨j1.1.kept hg (hd y1 (.inl e1)), j1.2⟩, ⟨j2.1.kept hg (hd y2 (.inr e2)), j2.2⟩, dd⟩
theorem OwCD.at2 {w : World} {B T g cap n : Nat} {zs : List CueV} (h : OwCD w B T (.slice (some ⟨g, 0, none⟩) n cap) zs) (hn : zs.length = n) {k : Nat} {z : CueV} (hk : zs[k]? = some z) :
    ∃ u, w.cell? ⟨g, k * 3 + 2, none⟩ = some u ∧ OwI w B u z.2.2 ∧ ∀ w1 l, OwI w1 B u l → w.grownBy w1 u.ownBlock → OwCD w1 B T (.slice (some ⟨g, 0, none⟩) n cap) (zs.set k (z.1, z.2.1, l)) := by
  subst hn
  obtain ⟨h0, xs, h1, h2, h3⟩ := h
  have hkl := (List.getElem?_eq_some_iff.1 hk).1
  obtain ⟨u1, u2, c0, c1, c2, i1, i2, d⟩ := h2 k z hk
  refine ⟨u2, by rw [World.ownsRow.cellAt h1 _ (by omega)]; exact c2, i2.1, fun w1 l ho hg => ⟨h0, xs, by rw [List.length_set]; exact World.ownsRow.kept h1 hg i2.2.1.symm, fun j y hy => ?_, h3⟩⟩
  rw [List.getElem?_set] at hy
  by_cases hj : k = j
  · subst hj
    rw [if_pos rfl, if_pos hkl] at hy
    cases hy
    exact ⟨u1, u2, c0, c1, c2, ⟨i1.1.kept hg d, i1.2⟩, ⟨ho, i2.2⟩, d⟩
  · rw [if_neg hj] at hy
    obtain ⟨y1, y2, e0, e1, e2, j1, j2, dd⟩ := h2 j y hy
    have hd : ∀ u : Value, (xs[j * 3 + 1]? = some u ∨ xs[j * 3 + 2]? = some u) → Dis u u2 := by
      intro u hu
      rcases Nat.lt_or_gt_of_ne hj with hlt | hlt
      · exact (h3 k j u2 u hlt (.inr c2) hu).symm
      · exact h3 j k u u2 hlt hu (.inr c2)
    exact ⟨y1, y2, e0, e1, e2, ⟨j1.1.kept hg (hd y1 (.inl e1)), j1.2⟩, ⟨j2.1.kept hg (hd y2 (.inr e2)), j2.2⟩, dd⟩
/-- One cue marked. -/
theorem OwCD.cue {w : World} {B T g cap n : Nat} {zs : List CueV} (h : OwCD w B T (.slice (some ⟨g, 0, none⟩) n cap) zs) (hn : zs.length = n) {k : Nat} {z : CueV} (hk : zs[k]? = some z) (x : Int) :
    w.frozen? ⟨g, k * 3, none⟩ = false ∧ w.cell? ⟨g, k * 3, none⟩ = some (.int .i64 z.1) ∧ ∃ u1, (w.setCell ⟨g, k * 3, none⟩ (.int .i64 x)).cell? ⟨g, k * 3 + 1, none⟩ = some u1 ∧
      OwI (w.setCell ⟨g, k * 3, none⟩ (.int .i64 x)) B u1 z.2.1 ∧ ∀ w2 l1, OwI w2 B u1 l1 → (w.setCell ⟨g, k * 3, none⟩ (.int .i64 x)).grownBy w2 u1.ownBlock →
      ∃ u2, w2.cell? ⟨g, k * 3 + 2, none⟩ = some u2 ∧ OwI w2 B u2 z.2.2 ∧ ∀ w3 l2, OwI w3 B u2 l2 → w2.grownBy w3 u2.ownBlock → OwCD w3 B T (.slice (some ⟨g, 0, none⟩) n cap) (zs.set k (x, l1, l2)) ∧ Below B w w3 := by
  have hkl := (List.getElem?_eq_some_iff.1 hk).1
  obtain ⟨t1, t2, t3, t4⟩ := h.tick hn hk x
  obtain ⟨h0, xs, hxs, _⟩ := h
  have hgl := World.ownsRow.lt hxs g rfl
  have hBw : B ≤ w.heap.size := by omega
  have b1 : Below B w (w.setCell ⟨g, k * 3, none⟩ (.int .i64 x)) := (Below.refl B w).grown t4 hBw (fun q hq => by cases hq; exact hgl.1)
  have e1 : (zs.set k (x, z.2))[k]? = some (x, z.2) := by rw [List.getElem?_set_self hkl]
  obtain ⟨u1, c1, o1, f1⟩ := t3.at1 (by simpa using hn) e1
  refine ⟨t1, t2, u1, c1, o1, fun w2 l1 p1 g1 => ?_⟩
  have b2 := b1.grown g1 (by have := b1.size; omega) (fun q hq => (o1.lt q hq).1)
  have q2 := f1 w2 l1 p1 g1
  rw [List.set_set] at q2
  have e2 : (zs.set k (x, l1, z.2.2))[k]? = some (x, l1, z.2.2) := by rw [List.getElem?_set_self hkl]
  obtain ⟨u2, c2, o2, f2⟩ := q2.at2 (by simpa using hn) e2
  refine ⟨u2, c2, o2, fun w3 l2 p2 g2 => ⟨?_, b2.grown g2 (by have := b2.size; omega) (fun q hq => (o2.lt q hq).1)⟩⟩
  have q3 := f2 w3 l2 p2 g2
  rw [List.set_set] at q3
  exact q3
theorem mark_set {q : Int} {zs : List CueV} {k : Nat} {z : CueV} (hz : zs[k]? = some z) :
    (mkC q (zs.take k) ++ zs.drop k)[k]? = some z ∧ (mkC q (zs.take k) ++ zs.drop k).length = zs.length ∧
    (mkC q (zs.take k) ++ zs.drop k).set k (q + totM (zs.take k), marks (q + totM (zs.take k) + 1) z.2.1.length, marks (q + totM (zs.take k) + 1 + z.2.1.length) z.2.2.length) = mkC q (zs.take (k + 1)) ++ zs.drop (k + 1) ∧
    totM (zs.take (k + 1)) = totM (zs.take k) + 1 + z.2.1.length + z.2.2.length ∧ totM (zs.take (k + 1)) ≤ totM zs := by
  have hkl := (List.getElem?_eq_some_iff.1 hz).1
  have hd : zs.drop k = z :: zs.drop (k + 1) := by
    rw [List.drop_eq_getElem_cons hkl, (List.getElem?_eq_some_iff.1 hz).2]
  have ht : zs.take (k + 1) = zs.take k ++ [z] := by
    rw [List.take_succ_eq_append_getElem hkl, (List.getElem?_eq_some_iff.1 hz).2]
  have hml : (mkC q (zs.take k)).length = k := by rw [mkC_length, List.length_take]; omega
  refine ⟨?_, ?_, ?_, ?_, ?_⟩
  · rw [List.getElem?_append_right (by omega), hml, Nat.sub_self, hd]
    rfl
  · rw [List.length_append, hml, List.length_drop]; omega
  · rw [List.set_append_right _ _ (by omega), hml, Nat.sub_self, hd, ht, mkC_append, List.set_cons_zero, List.append_assoc]
    rfl
  · rw [ht, totM_append]; simp only [totM]; omega
  · have : totM zs = totM (zs.take (k + 1)) + totM (zs.drop (k + 1)) := by rw [← totM_append, List.take_append_drop]
    omega
set_option maxHeartbeats 1000000 in
theorem markCueS_any (zs : List CueV) (q : Int) (hq : 0 ≤ q) (hq2 : q + totM zs ≤ 1048576) (B T : Nat) (v : Value) (w : World) (h : OwCD w B T v zs) :
    Calls Tryd.prog 37 #[v, .int .i64 q] w fun e w' => e = .returned (.int .i64 (q + totM zs)) ∧ OwCD w' B T v (mkC q zs) ∧ Below B w w' := by
  rcases h.slice with ⟨rfl, rfl⟩ | ⟨g, cap, rfl, hg, hgw, hcap, hmax⟩
  · go_enter Tryd.func37, Tryd.ntmps37
    go_wp2
    go_rounds 1
    go_ret
    exact ⟨ret_int (by simp [totM]), h, Below.refl _ _⟩
  · have HO := Lib.hid h
    clear h
    go_enter Tryd.func37, Tryd.ntmps37
    go_wp2
    go_loopw [1, 5] (fun p i wr => ∃ k : Nat, k ≤ zs.length ∧ i = .int .i64 k ∧ p = .int .i64 (q + totM (zs.take k)) ∧ Hid (OwCD wr B T (.slice (some ⟨g, 0, none⟩) zs.length cap) (mkC q (zs.take k) ++ zs.drop k)) ∧ Hid (Below B w wr)) (fun _ i _ => zs.length - (intOf i).toNat)
    case atStart => exact ⟨0, Nat.zero_le _, rfl, by simp [totM], by show OwCD _ _ _ _ _; simpa [mkC] using HO.out, Below.refl _ _⟩
    case round =>
     focus
      obtain ⟨k, hk, rfl, rfl, HI, HB⟩ := hrel
      by_cases hlt : k < zs.length
      · obtain ⟨z, hz⟩ : ∃ z, zs[k]? = some z := ⟨_, List.getElem?_eq_getElem hlt⟩
        obtain ⟨m1, m2, m3, m4, m5⟩ := mark_set (q := q) hz
        obtain ⟨p, hp⟩ : ∃ p : Int, p = q + totM (zs.take k) := ⟨_, rfl⟩
        rw [← hp] at m3 ⊢
        have hp0 : 0 ≤ p := by omega
        have hp1 : p + 1 + z.2.1.length + z.2.2.length ≤ 1048576 := by omega
        obtain ⟨f1, f2, u1, c1, o1, F⟩ := HI.out.cue m2 m1 p
        have HF := Lib.hid F
        have HM := Lib.hid (And.intro m3 (And.intro m4 hp))
        obtain ⟨a1, y1, rfl⟩ := o1.rd.shape
        clear m1 m2 m3 m4 m5 hz F HI hp
        go_wp2_with (fail)
        refine (markIntS_any z.2.1 (p + 1) (by omega) (by omega) B _ _ o1).mono ?_
        rintro e w2 ⟨rfl, om, hg2⟩
        obtain ⟨u2, c2, o2, F2⟩ := HF.out w2 _ om hg2
        have HF2 := Lib.hid F2
        clear F2 om hg2 o1 HF c1
        obtain ⟨a2, y2, rfl⟩ := o2.rd.shape
        go_wp2_with (fail)
        refine (markIntS_any z.2.2 (p + 1 + z.2.1.length) (by omega) (by omega) B _ _ o2).mono ?_
        rintro e w3 ⟨rfl, om, hg3⟩
        have H3 := HF2.out w3 _ om hg3
        rw [HM.out.1] at H3
        have H4 := Lib.hid H3.1
        have HB2 := Lib.hid (HB.out.trans H3.2)
        have hpe : p + 1 + (z.2.1.length : Int) + (z.2.2.length : Int) = q + totM (zs.take (k + 1)) := by rw [HM.out.2.1, HM.out.2.2]; omega
        have HP := Lib.hid hpe
        clear om hg3 o2 HF2 c2 H3 HB hpe
        go_wp2_with (fail)
        exact ⟨⟨k + 1, by omega, by go_num, by rw [← HP.out], H4, HB2⟩, by simp [intOf]; omega⟩
      · go_wp2
        go_ret
        obtain rfl : k = zs.length := by omega
        have ho := HI.out
        rw [List.take_length, List.drop_length, List.append_nil] at ho
        exact ⟨by rw [List.take_length]; rfl, ho, HB.out⟩
set_option maxHeartbeats 1000000 in
theorem heldCueS_any (zs : List CueV) (q : Int) (hq : 0 ≤ q) (hq2 : q + totM zs ≤ 1048576) (v : Value) (w : World) (h : RdCue w v (mkC q zs)) :
    Calls Tryd.prog 38 #[v, .int .i64 q] w fun e w' => e = .returned (.int .i64 (q + totM zs)) ∧ w = w' := by
  obtain ⟨ad, cap, bl, off, rfl, hcap, hmax, had, hc⟩ := h
  rw [mkC_length] at had hcap
  rw [mkC_length]
  have HC := Lib.hid hc
  clear hc
  go_enter Tryd.func38, Tryd.ntmps38
  go_wp2
  go_loop [1, 5] (fun p i => ∃ k : Nat, k ≤ zs.length ∧ i = .int .i64 k ∧ p = .int .i64 (q + totM (zs.take k))) (fun _ i => zs.length - (intOf i).toNat)
  case atStart => exact ⟨0, Nat.zero_le _, rfl, by simp [totM]⟩
  case round =>
   focus
    obtain ⟨k, hk, rfl, rfl⟩ := hrel
    by_cases hlt : k < zs.length
    · obtain rfl := had (by omega)
      obtain ⟨z, hz⟩ : ∃ z, zs[k]? = some z := ⟨_, List.getElem?_eq_getElem hlt⟩
      obtain ⟨m1, m2, m3, m4, m5⟩ := mark_set (q := q) hz
      obtain ⟨p, hp⟩ : ∃ p : Int, p = q + totM (zs.take k) := ⟨_, rfl⟩
      obtain ⟨u1, u2, c0, c1, c2, r1, r2⟩ := HC.out k _ (by rw [mkC_get, hz]; rfl)
      rw [← hp] at c0 r1 r2 ⊢
      dsimp only at c0 r1 r2
      have hp0 : 0 ≤ p := by omega
      have hp1 : p + 1 + z.2.1.length + z.2.2.length ≤ 1048576 := by omega
      have HM := Lib.hid (And.intro m4 hp)
      obtain ⟨a1, y1, rfl⟩ := r1.shape
      obtain ⟨a2, y2, rfl⟩ := r2.shape
      simp only [marks_length] at c1 c2 r1 r2
      clear m1 m2 m3 m4 m5 hz hp
      go_wp2_with (fail)
      refine (heldIntS_any z.2.1.length (p + 1) (by omega) (by omega) _ _ r1).mono ?_
      rintro e w2 ⟨rfl, rfl⟩
      have q1 : ¬ (p + 1 + (z.2.1.length : Int)) < 0 := by omega
      go_wp2_with (fail)
      refine (heldIntS_any z.2.2.length (p + 1 + z.2.1.length) (by omega) (by omega) _ _ r2).mono ?_
      rintro e w3 ⟨rfl, rfl⟩
      have q2 : ¬ (p + 1 + (z.2.1.length : Int) + (z.2.2.length : Int)) < 0 := by omega
      have hpe : p + 1 + (z.2.1.length : Int) + (z.2.2.length : Int) = q + totM (zs.take (k + 1)) := by rw [HM.out.1, HM.out.2]; omega
      have HP := Lib.hid hpe
      clear hpe
      go_wp2_with (fail)
      exact ⟨⟨k + 1, by omega, by go_num, by rw [← HP.out]⟩, by simp [intOf]; omega⟩
    · go_wp2
      go_ret
      obtain rfl : k = zs.length := by omega
      exact ⟨by rw [List.take_length]; rfl, rfl⟩
end Go.Proofs.YtkkcglncjdoacaaDoor
