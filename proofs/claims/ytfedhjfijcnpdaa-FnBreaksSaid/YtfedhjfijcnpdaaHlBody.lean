/- The laws' helpers on bodies. -/
import Derived.Test.YtfedhjfijcnpdaaHlLimb
import Derived.Test.YtfedhjfijcnpdaaBodyS
namespace Go.Proofs.Ytfedhjfijcnpdaa
open Go.ChangeShapes Go.WideShapes Go.ChangeAt Go.RowKit Go.Joins Tr
set_option linter.unusedSimpArgs false
set_option linter.unusedVariables false
set_option maxRecDepth 20000

theorem BX.newL (w : World) (J : Int) (u : Value) : BX (w.alloc (.cells #[.int .i64 J, u] 45)) w.heap.size J u := by refine ⟨?_, ?_⟩ <;> simp [go_sem]
theorem dis_ltB {y r : Value} {C : Nat} (hy : ∀ k, y.ownBlock = some k → k < C) (hr : ∀ k, r.ownBlock = some k → C ≤ k) : Dis y r := by
  rcases hk : y.ownBlock with _ | k
  · exact .inl hk
  · refine .inr fun e => ?_
    rw [hk] at e
    have := hr k e.symm
    have := hy k hk
    omega
theorem Dis.swap {u v : Value} (h : Dis u v) : Dis v u := by
  rcases hv : v.ownBlock with _ | k
  · exact .inl hv
  · refine .inr fun e => ?_
    rcases h with h | h
    · rw [hv, h] at e; simp at e
    · exact h e.symm

theorem szBody_ok (J : Int) (n : Nat) (a : Option Addr) (cap : Nat) (l : Int) (hl : l ≤ 1048576) (h : (n : Int) ≤ l) (w : World) :
    Calls Try.prog 27 #[.agg #[.int .i64 J, .slice a n cap], .int .i64 l] w fun e w' => e = .returned (.int .i64 (l - n)) ∧ Below w.heap.size w w' := by
  have HB := Lib.hid (below_alloc1 w (.cells #[.int .i64 J, .slice a n cap] 45))
  go_enter Try.func27, Try.ntmps27
  go_wp2_with (fail)
  refine (szLimbS_ok n a cap l hl h _).mono ?_
  rintro e w1 ⟨rfl, rfl⟩
  have h0 : ¬ l - (n : Int) < 0 := by omega
  go_wp2_with (fail)
  go_ret
  exact ⟨rfl, HB.out⟩
theorem szBody_no (J : Int) (n : Nat) (a : Option Addr) (cap : Nat) (hn : n ≤ 9223372036854775807) (l : Int) (h0 : 0 ≤ l) (hl : l ≤ 1048576) (h : l < (n : Int)) (w : World) :
    Calls Try.prog 27 #[.agg #[.int .i64 J, .slice a n cap], .int .i64 l] w fun e w' => e = .returned (.int .i64 (-1)) ∧ Below w.heap.size w w' := by
  have HB := Lib.hid (below_alloc1 w (.cells #[.int .i64 J, .slice a n cap] 45))
  go_enter Try.func27, Try.ntmps27
  go_wp2_with (fail)
  refine (szLimbS_no n a cap hn l h0 hl h _).mono ?_
  rintro e w1 ⟨rfl, rfl⟩
  go_wp2_with (fail)
  go_ret
  exact ⟨rfl, HB.out⟩
set_option maxHeartbeats 1000000 in
theorem eqBody_any (J : Int) (zs : List LimbV) (v u : Value) (w : World) (h : RdLimb w v zs) (h' : RdLimb w u zs) :
    Calls Try.prog 31 #[.agg #[.int .i64 J, v], .agg #[.int .i64 J, u]] w fun e w' => e = .returned (.bool true) ∧ Below w.heap.size w w' := by
  obtain ⟨a1, c1, rfl⟩ := h.shape
  obtain ⟨a2, c2, rfl⟩ := h'.shape
  have hb0 := below_alloc1 w (.cells #[.int .i64 J, .slice a1 zs.length c1] 26)
  have hb1 := below_alloc1 (w.alloc (.cells #[.int .i64 J, .slice a1 zs.length c1] 26)) (.cells #[.int .i64 J, .slice a2 zs.length c2] 26)
  have HS := Lib.hid (And.intro (bvia hb0 hb1) (And.intro ((h.below hb0).below hb1) ((h'.below hb0).below hb1)))
  clear hb0 hb1 h h'
  go_enter Try.func31, Try.ntmps31
  go_wp2_with (fail)
  refine (eqLimbS_any zs _ _ _ HS.out.2.1 HS.out.2.2).mono ?_
  rintro e w1 ⟨rfl, hb⟩
  have hB := bvia HS.out.1 hb
  clear hb
  go_wp2_with (fail)
  go_ret
  exact ⟨rfl, hB⟩
set_option maxHeartbeats 1000000 in
theorem markBody_any (J : Int) (zs : List LimbV) (q : Int) (hq : 0 ≤ q) (hq2 : q + zs.length ≤ 1099511627776) (B : Nat) (v : Value) (w : World) (h : OwLimb w B v zs) :
    Calls Try.prog 37 #[.agg #[.int .i64 J, v], .int .i64 q] w fun e w' => e = .returned (.int .i64 (q + 3 * zs.length)) ∧ OwLimb w' B v (marksLimb q zs.length) ∧ w.grownBy w' v.ownBlock := by
  obtain ⟨a1, c1, rfl⟩ := h.rd.shape
  have HO := Lib.hid (h.alloc (.cells #[.int .i64 J, .slice a1 zs.length c1] 26))
  clear h
  go_enter Try.func37, Try.ntmps37
  go_wp2_with (fail)
  refine (markLimbS_any zs q hq hq2 B _ _ HO.out).mono ?_
  rintro e w1 ⟨rfl, ho, hg⟩
  have HF := Lib.hid (And.intro ho (grown_alloc hg))
  clear ho hg HO
  go_wp2_with (fail)
  go_ret
  exact ⟨rfl, HF.out⟩
set_option maxHeartbeats 2000000 in
theorem toBody_any (J : Int) (zs : List LimbV) (hn : zs.length ≤ 1048576) (u : Value) (w : World) (h : RdLimb w u zs) :
    Calls Try.prog 29 #[.agg #[.int .i64 J, u]] w fun e w' => ∃ v, e = .returned (.agg #[.int .i64 J, v]) ∧ OwLimb w' w.heap.size v zs ∧ Below w.heap.size w w' := by
  obtain ⟨a1, c1, rfl⟩ := h.shape
  have hB0 := below_alloc3 w (.cells #[.int .i64 J, .slice a1 zs.length c1] 45) (.cells #[.int .i64 0, .slice none 0 0] 26) (.cells #[.int .i64 J, .slice none 0 0] 26)
  obtain ⟨W0, hW0⟩ : ∃ W0, ((w.alloc (.cells #[.int .i64 J, .slice a1 zs.length c1] 45)).alloc (.cells #[.int .i64 0, .slice none 0 0] 26)).alloc (.cells #[.int .i64 J, .slice none 0 0] 26) = W0 := ⟨_, rfl⟩
  have o1 : W0.ownsRow (w.heap.size + 1) 26 2 (.slice (some ⟨w.heap.size + 1, 0, none⟩) 1 1) 1 [.int .i64 0, .slice none 0 0] := by
    rw [← hW0]
    have h := World.ownsRow_lit (base := w.heap.size + 1) (e := 26) (size := 2) (w.alloc (.cells #[.int .i64 J, .slice a1 zs.length c1] 45)) #[.int .i64 0, .slice none 0 0] 1 (by simp) (by rw [maxLen_eq]; omega) rfl
    rw [show (w.alloc (.cells #[.int .i64 J, .slice a1 zs.length c1] 45)).heap.size = w.heap.size + 1 by simp] at h
    exact World.ownsRow.alloc h _
  have o2 : W0.ownsRow (w.heap.size + 1) 26 2 (.slice (some ⟨w.heap.size + 1 + 1, 0, none⟩) 1 1) 1 [.int .i64 J, .slice none 0 0] := by
    rw [← hW0]
    have h := World.ownsRow_lit (base := w.heap.size + 1) (e := 26) (size := 2) ((w.alloc (.cells #[.int .i64 J, .slice a1 zs.length c1] 45)).alloc (.cells #[.int .i64 0, .slice none 0 0] 26)) #[.int .i64 J, .slice none 0 0] 1 (by simp) (by rw [maxLen_eq]; omega) rfl
    rw [show ((w.alloc (.cells #[.int .i64 J, .slice a1 zs.length c1] 45)).alloc (.cells #[.int .i64 0, .slice none 0 0] 26)).heap.size = w.heap.size + 1 + 1 by simp] at h
    exact h
  have hs0 : W0.heap.size = w.heap.size + 1 + 1 + 1 := by rw [← hW0]; simp
  rw [hW0] at hB0
  have HW0 := Lib.hid hW0
  clear hW0
  have HS := Lib.hid (And.intro o1 (And.intro o2 hs0))
  clear o1 o2 hs0
  go_enter Try.func29, Try.ntmps29
  go_wp2_with (fail)
  rw [HW0.out]
  clear HW0
  refine (toLimbS_any zs hn _ _ (h.below hB0)).mono ?_
  rintro e w1 ⟨v1, rfl, ov1, hb⟩
  obtain ⟨x1, y1, rfl⟩ := ov1.rd.shape
  obtain ⟨o1, o2, hs0⟩ := HS.out
  rw [hs0] at ov1
  replace o1 := own_below o1 hb
  replace o2 := own_below o2 hb
  have hB1 := bvia hB0 hb
  clear hb HS hB0 hs0
  have st := World.ownsRow.stored o2 1 (.slice x1 zs.length y1)
  have f1 := World.ownsRow.frozenAt o2 1
  have d1 := World.ownsRow.cellAt o2 1 (by omega)
  have hd1 : Dis (.slice x1 zs.length y1) (.slice (some ⟨w.heap.size + 1 + 1, 0, none⟩) 1 1) := (dis_ltB (fun q hq => by simp [Value.ownBlock] at hq; omega) (fun q hq => (ov1.lt q hq).1)).swap
  have ov1' := ov1.kept st.2 hd1
  have hd12 : Dis (.slice (some ⟨w.heap.size + 1, 0, none⟩) 1 1) (.slice (some ⟨w.heap.size + 1 + 1, 0, none⟩) 1 1) := dis_addr (by omega)
  have o1' := World.ownsRow.kept o1 st.2 hd12
  have hB4 : Below w.heap.size w (w1.setCell ⟨w.heap.size + 1 + 1, 1, none⟩ (.slice x1 zs.length y1)) := hB1.setCell (by simp; omega) _
  have e0 := World.ownsRow.cellAt o2 0 (by omega)
  have g0 := World.ownsRow.cellAt o1 0 (by omega)
  have g1 := World.ownsRow.cellAt o1 1 (by omega)
  have k0 := World.ownsRow.frozenAt o1 0
  have k1 := World.ownsRow.frozenAt o1 1
  simp only [List.getElem?_cons_succ, List.getElem?_cons_zero] at d1 e0 g0 g1
  have s0 := World.ownsRow.stored o1' 0 (.int .i64 J)
  have s1 := World.ownsRow.stored s0.1 1 (.slice x1 zs.length y1)
  have m0 := World.ownsRow.cellAt s0.1 0 (by omega)
  have m1 := World.ownsRow.cellAt s1.1 1 (by omega)
  simp only [List.set_cons_succ, List.set_cons_zero, List.getElem?_cons_succ, List.getElem?_cons_zero] at m0 m1
  have hv1 : Dis (.slice x1 zs.length y1) (.slice (some ⟨w.heap.size + 1, 0, none⟩) 1 1) := (dis_ltB (fun q hq => by simp [Value.ownBlock] at hq; omega) (fun q hq => (ov1.lt q hq).1)).swap
  have r1 := (ov1'.kept s0.2 hv1).kept s1.2 hv1
  have hB5 := (hB4.setCell (p := ⟨w.heap.size + 1, 0, none⟩) (by simp) (.int .i64 J)).setCell (p := ⟨w.heap.size + 1, 1, none⟩) (by simp) (.slice x1 zs.length y1)
  have HF := Lib.hid (And.intro (r1.base (show w.heap.size ≤ w.heap.size + 1 + 1 + 1 by omega)) hB5)
  clear s0 s1 hv1 r1 hB5 hB4 hB1 ov1 ov1' o1' st hd1 o1 o2 hd12
  go_wp2_with (fail)
  (try simp only [Exit.inBlock, Exit.then])
  refine bodyPost_ret (by simp [results, Try.results29, go_sem, m0, m1]; try rfl) rfl ?_
  exact ⟨_, rfl, HF.out⟩
end Go.Proofs.Ytfedhjfijcnpdaa
