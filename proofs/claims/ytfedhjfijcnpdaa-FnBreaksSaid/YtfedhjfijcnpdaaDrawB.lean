/- The draws of bodies and pulls. -/
import Derived.Test.YtfedhjfijcnpdaaPulls
import Derived.Test.YtfedhjfijcnpdaaHlBody
import Derived.Test.YtfedhjfijcnpdaaApLimb
import Derived.Test.YtfedhjfijcnpdaaDraw
import Derived.Test.YtfedhjfijcnpdaaHas
import Derived.Test.YtfedhjfijcnpdaaRg2
namespace Go.Proofs.Ytfedhjfijcnpdaa
open Go.ChangeShapes Go.WideShapes Go.ChangeAt Go.RowKit Go.Joins Tr
set_option linter.unusedSimpArgs false
set_option linter.unusedVariables false
set_option maxRecDepth 20000

/-- A cell of a body, of the call's own. -/
def BR (w : World) (B g : Nat) (J : Int) (u : Value) : Prop := w.ownsRow B 26 2 (.slice (some ⟨g, 0, none⟩) 1 1) 1 [.int .i64 J, u]
def brV (g : Nat) : Value := .slice (some ⟨g, 0, none⟩) 1 1
theorem BR.made (w : World) (B : Nat) (hB : B ≤ w.heap.size) (J : Int) (u : Value) : BR (w.alloc (.cells #[.int .i64 J, u] 26)) B w.heap.size J u :=
  World.ownsRow_lit (base := B) (e := 26) (size := 2) w #[.int .i64 J, u] 1 hB (by rw [maxLen_eq]; omega) rfl
theorem BR.alloc {w : World} {B g : Nat} {J : Int} {u : Value} (h : BR w B g J u) (o : Obj) : BR (w.alloc o) B g J u := World.ownsRow.alloc h o
theorem BR.below {w w' : World} {B g : Nat} {J : Int} {u : Value} (h : BR w B g J u) (hb : Below w.heap.size w w') : BR w' B g J u := own_below h hb
theorem BR.drew {w : World} {B g : Nat} {J : Int} {u : Value} (h : BR w B g J u) : BR w.drew B g J u := h
theorem BR.lt {w : World} {B g : Nat} {J : Int} {u : Value} (h : BR w B g J u) : B ≤ g ∧ g < w.heap.size := World.ownsRow.lt h g rfl
theorem BR.cells {w : World} {B g : Nat} {J : Int} {u : Value} (h : BR w B g J u) : (w.cell? ⟨g, 0, none⟩ = some (.int .i64 J) ∧ w.cell? ⟨g, 1, none⟩ = some u) ∧ w.frozen? ⟨g, 0, none⟩ = false ∧ w.frozen? ⟨g, 1, none⟩ = false := by
  have h0 := World.ownsRow.cellAt h 0 (by omega)
  have h1 := World.ownsRow.cellAt h 1 (by omega)
  simp only [List.getElem?_cons_succ, List.getElem?_cons_zero] at h0 h1
  exact ⟨⟨h0, h1⟩, World.ownsRow.frozenAt h 0, World.ownsRow.frozenAt h 1⟩
theorem BR.set0 {w : World} {B g : Nat} {J : Int} {u : Value} (h : BR w B g J u) (K : Int) : BR (w.setCell ⟨g, 0, none⟩ (.int .i64 K)) B g K u ∧ w.grownBy (w.setCell ⟨g, 0, none⟩ (.int .i64 K)) (brV g).ownBlock := by
  have s0 := World.ownsRow.stored h 0 (.int .i64 K)
  simp only [List.set_cons_zero] at s0
  exact s0
theorem BR.set1 {w : World} {B g : Nat} {J : Int} {u : Value} (h : BR w B g J u) (x : Value) : BR (w.setCell ⟨g, 1, none⟩ x) B g J x ∧ w.grownBy (w.setCell ⟨g, 1, none⟩ x) (brV g).ownBlock := by
  have s0 := World.ownsRow.stored h 1 x
  simp only [List.set_cons_succ, List.set_cons_zero] at s0
  exact s0
theorem BR.put {w : World} {B g : Nat} {J : Int} {u : Value} (h : BR w B g J u) (K : Int) (x : Value) : BR ((w.setCell ⟨g, 0, none⟩ (.int .i64 K)).setCell ⟨g, 1, none⟩ x) B g K x ∧ w.grownBy ((w.setCell ⟨g, 0, none⟩ (.int .i64 K)).setCell ⟨g, 1, none⟩ x) (brV g).ownBlock :=
  ⟨((h.set0 K).1.set1 x).1, grownBy_trans (h.set0 K).2 ((h.set0 K).1.set1 x).2⟩
theorem BR.kept {w w' : World} {B g : Nat} {J : Int} {u v : Value} (h : BR w B g J u) (hg : w.grownBy w' v.ownBlock) (hd : Dis (brV g) v) : BR w' B g J u := World.ownsRow.kept h hg hd
theorem dis_br {v : Value} {g : Nat} (h : ∀ k, v.ownBlock = some k → k ≠ g) : Dis v (brV g) := by
  rcases hx : v.ownBlock with _ | m
  · exact .inl hx
  · refine .inr fun e => ?_
    rw [hx] at e
    simp [brV, Value.ownBlock] at e
    exact h m hx e
theorem BX.keep {w w' : World} {g : Nat} {J : Int} {u : Value} {row : Option Nat} (h : BX w g J u) (hg : w.grownBy w' row) (hn : some g ≠ row) : BX w' g J u := ⟨hg.cell h.1 hn, hg.cell h.2 hn⟩
theorem brV_own (g : Nat) : ∀ k, (brV g).ownBlock = some k → k = g := by intro k h; simp [brV, Value.ownBlock] at h; exact h.symm

set_option maxHeartbeats 2000000 in
theorem l02Copy_any (J : Int) (zs : List LimbV) (hn : zs.length ≤ 1048576) (u : Value) (w : World) (h : RdLimb w u zs) :
    Calls Try.prog 71 #[.agg #[.int .i64 J, u]] w fun e w' => ∃ v, e = .returned (.agg #[.int .i64 J, v]) ∧ OwLimb w' w.heap.size v zs ∧ Below w.heap.size w w' := by
  obtain ⟨ad, cap, rfl⟩ := h.shape
  have hb0 := below_alloc1 w (.cells #[.int .i64 J, .slice ad zs.length cap] 26)
  have hx0 := BX.new w J (.slice ad zs.length cap)
  have hsa : (w.alloc (.cells #[.int .i64 J, .slice ad zs.length cap] 26)).heap.size = w.heap.size + 1 := by simp
  have hb1 := below_alloc1 (w.alloc (.cells #[.int .i64 J, .slice ad zs.length cap] 26)) (.cells #[.int .i64 0, .slice none 0 0] 26)
  have hr := BR.made (w.alloc (.cells #[.int .i64 J, .slice ad zs.length cap] 26)) (w.heap.size + 1) (by omega) 0 (.slice none 0 0)
  rw [hsa] at hr
  obtain ⟨W0, hW0⟩ : ∃ W0, (w.alloc (.cells #[.int .i64 J, .slice ad zs.length cap] 26)).alloc (.cells #[.int .i64 0, .slice none 0 0] 26) = W0 := ⟨_, rfl⟩
  have hs0 : W0.heap.size = w.heap.size + 2 := by rw [← hW0]; simp
  have HS := Lib.hid (And.intro (bvia hb0 hb1) (And.intro (hx0.below hb1) (And.intro ((h.below hb0).below hb1) hr)))
  rw [hW0] at HS
  replace hW0 := Lib.hid hW0
  replace hs0 := Lib.hid hs0
  clear hb0 hx0 h hb1 hsa hr
  go_enter Try.func71, Try.ntmps71
  go_wp2_with (fail)
  rw [hW0.out]
  obtain ⟨hB, hX, hR, hC⟩ := HS.out
  clear HS
  with_reducible refine region_beg (n := 8) (S := (fun w' => w'.cell? ⟨w.heap.size, 0, none⟩ = some (.int .i64 J) ∧ w'.cell? ⟨w.heap.size, 1, none⟩ = some (.slice ad zs.length cap))) ?b1_u1 ?b2_u1 ?b3_u1 (fun hHeld => ?b4_u1)
  case b1_u1 => kernel_rfl
  case b2_u1 => kernel_rfl
  case b3_u1 => (try dsimp only); first | exact hX4 | exact hX3 | exact hX2 | exact hX | exact hX.below (dr1 _).below
  with_reducible refine takeI2 (i := 0) (v := ?sv_u2) (oi := ?s0_u2) (by simp only [List.getElem?_toArray, List.getElem?_cons_succ, List.getElem?_cons_zero]; exact rfl) ?s1_u2 ?s2_u2 ?s3_u2 ?s4_u2 ?s5_u2 ?s6_u2 ?s7_u2
  case s1_u2 => kernel_rfl
  case s2_u2 => kernel_rfl
  case s3_u2 => kernel_rfl
  case s4_u2 => exact fun _ _ _ h => h
  case s5_u2 => exact Or.inl ⟨rfl, by intro w hSw; (try dsimp only at hSw); go_simp; try with_reducible rfl⟩
  case s6_u2 => assumption
  try simp only [Act.put, List.setIfInBounds_toArray, List.set_cons_zero, List.set_cons_succ]
  with_reducible refine takeI2 (i := 1) (v := ?sv_u3) (oi := ?s0_u3) (by simp only [List.getElem?_toArray, List.getElem?_cons_succ, List.getElem?_cons_zero]; exact rfl) ?s1_u3 ?s2_u3 ?s3_u3 ?s4_u3 ?s5_u3 ?s6_u3 ?s7_u3
  case s1_u3 => kernel_rfl
  case s2_u3 => kernel_rfl
  case s3_u3 => kernel_rfl
  case s4_u3 => exact fun _ _ _ h => h
  case s5_u3 => exact Or.inl ⟨rfl, by intro w hSw; (try dsimp only at hSw); go_simp; try with_reducible rfl⟩
  case s6_u3 => assumption
  try simp only [Act.put, List.setIfInBounds_toArray, List.set_cons_zero, List.set_cons_succ]
  with_reducible refine takeI2 (i := 3) (v := ?sv_u4) (oi := ?s0_u4) (by simp only [List.getElem?_toArray, List.getElem?_cons_succ, List.getElem?_cons_zero]; exact rfl) ?s1_u4 ?s2_u4 ?s3_u4 ?s4_u4 ?s5_u4 ?s6_u4 ?s7_u4
  case s1_u4 => kernel_rfl
  case s2_u4 => kernel_rfl
  case s3_u4 => kernel_rfl
  case s4_u4 => exact fun _ _ _ h => h
  case s5_u4 => exact Or.inl ⟨rfl, by intro w hSw; (try dsimp only at hSw); go_simp; try with_reducible rfl⟩
  case s6_u4 => assumption
  try simp only [Act.put, List.setIfInBounds_toArray, List.set_cons_zero, List.set_cons_succ]
  with_reducible refine takeI2 (i := 4) (v := ?sv_u5) (oi := ?s0_u5) (by simp only [List.getElem?_toArray, List.getElem?_cons_succ, List.getElem?_cons_zero]; exact rfl) ?s1_u5 ?s2_u5 ?s3_u5 ?s4_u5 ?s5_u5 ?s6_u5 ?s7_u5
  case s1_u5 => kernel_rfl
  case s2_u5 => kernel_rfl
  case s3_u5 => kernel_rfl
  case s4_u5 => exact fun _ _ _ h => h
  case s5_u5 => exact Or.inl ⟨rfl, by intro w hSw; (try dsimp only at hSw); go_simp; try with_reducible rfl⟩
  case s6_u5 => assumption
  try simp only [Act.put, List.setIfInBounds_toArray, List.set_cons_zero, List.set_cons_succ]
  with_reducible refine wpAnyH_ready (rs := [2]) ?s1_u6 one_ne ?s2_u6
  case s1_u6 => kernel_rfl
  with_reducible refine AllReadyH.cons (o := ?s0_u6) (by simp only [List.getElem?_toArray, List.getElem?_cons_succ, List.getElem?_cons_zero]; exact rfl) (fun K hK => ?s3_u6) AllReadyH.nil
  go_simp
  have hba := (below_alloc1 W0 (.cells #[] 80)).drew
  have og := (OwLimb.empty W0 W0.heap.size (Nat.le_refl _)).drew
  have hX2 := hX.below hba
  have hR2 := hR.below hba
  have hC2 := hC.below hba
  have hB2 := bvia hB hba
  with_reducible refine hK.out _ _ ?s1_u7 (fun hHeld => ?s2_u7)
  case s1_u7 => (try dsimp only); first | exact hX4 | exact hX3 | exact hX2 | exact hX | exact hX.below (dr1 _).below
  clear hK K
  try simp only [Act.put, List.setIfInBounds_toArray, List.set_cons_zero, List.set_cons_succ]
  with_reducible refine wpAnyH_ready (rs := [5]) ?s1_u8 one_ne ?s2_u8
  case s1_u8 => kernel_rfl
  with_reducible refine AllReadyH.cons (o := ?s0_u8) (by simp only [List.getElem?_toArray, List.getElem?_cons_succ, List.getElem?_cons_zero]; exact rfl) (fun K hK => ?s3_u8) AllReadyH.nil
  refine step_appLimb rfl (.tmp 5) (.tmp 7) rfl _ W0.heap.size _ [] rfl og _ zs rfl hR2 (by simp <;> omega) (by simp) ?_
  intro v1 W1 o1 hg1 _
  simp only [List.nil_append] at o1
  obtain ⟨x1, y1, rfl⟩ := o1.rd.shape
  have hX3 := hX2.keep hg1 (fun e => by have := (og.lt _ e.symm).1; have := hs0.out; omega)
  have hC3 := hC2.kept hg1 (Dis.swap (dis_br (fun k hk => by have := (og.lt _ hk).1; have := hs0.out; omega)))
  have hB3 := og.grown_below (a := w) hB2 (by have := hs0.out; omega) hg1
  clear hX2 hR2 hC2 hB2 hba og hg1
  obtain ⟨⟨d0, d1⟩, f0, f1⟩ := hC3.cells
  with_reducible refine hK.out _ _ ?s1_u9 (fun hHeld => ?s2_u9)
  case s1_u9 => (try dsimp only); first | exact hX4 | exact hX3 | exact hX2 | exact hX | exact hX.below (dr1 _).below
  clear hK K
  try simp only [Act.put, List.setIfInBounds_toArray, List.set_cons_zero, List.set_cons_succ]
  with_reducible refine takeI2 (i := 6) (v := ?sv_u10) (oi := ?s0_u10) (by simp only [List.getElem?_toArray, List.getElem?_cons_succ, List.getElem?_cons_zero]; exact rfl) ?s1_u10 ?s2_u10 ?s3_u10 ?s4_u10 ?s5_u10 ?s6_u10 ?s7_u10
  case s1_u10 => kernel_rfl
  case s2_u10 => kernel_rfl
  case s3_u10 => kernel_rfl
  case s4_u10 => exact fun _ _ _ h => h
  case s5_u10 => exact Or.inl ⟨rfl, by intro w hSw; (try dsimp only at hSw); go_simp; try with_reducible rfl⟩
  case s6_u10 => assumption
  try simp only [Act.put, List.setIfInBounds_toArray, List.set_cons_zero, List.set_cons_succ]
  have hp := hC3.put J (.slice x1 zs.length y1)
  have o2 := (o1.kept hp.2 (dis_br (fun k hk => by have := (o1.lt _ hk).1; have := hs0.out; omega))).base (show w.heap.size ≤ W0.heap.size by have := hs0.out; omega)
  have hB4 := below_grown hB3 hp.2 (fun k hk => by rw [brV_own _ k hk]; exact Nat.le_succ _) (Nat.le_refl _)
  obtain ⟨⟨n0, n1⟩, _⟩ := hp.1.cells
  have HF := Lib.hid (And.intro o2 hB4)
  have hX4 := hX3.keep hp.2 (fun e => by have := brV_own _ _ e.symm; omega)
  clear hp o2 hB4 o1 hC3 hB3
  with_reducible refine wpAnyH_ready (rs := [7]) ?s1_u11 one_ne ?s2_u11
  case s1_u11 => kernel_rfl
  with_reducible refine AllReadyH.cons (o := ?s0_u11) (by simp only [List.getElem?_toArray, List.getElem?_cons_succ, List.getElem?_cons_zero]; exact rfl) (fun K hK => ?s3_u11) AllReadyH.nil
  go_simp
  skip
  with_reducible refine hK.out _ _ ?s1_u12 (fun hHeld => ?s2_u12)
  case s1_u12 => (try dsimp only); first | exact hX4 | exact hX3 | exact hX2 | exact hX | exact hX.below (dr1 _).below
  clear hK K
  try simp only [Act.put, List.setIfInBounds_toArray, List.set_cons_zero, List.set_cons_succ]
  with_reducible refine wpAnyH_done ?s1_u13 ?s2_u13 _
  case s1_u13 => kernel_rfl
  go_wp2_with (fail)
  (try simp only [Exit.inBlock, Exit.then])
  refine bodyPost_ret (by simp [results, Try.results71, go_sem, n0, n1]; try rfl) rfl ?_
  exact ⟨_, rfl, HF.out⟩

set_option maxHeartbeats 2000000 in
theorem addLimb_any (N : Nat) (zs : List LimbV) (hb : bodyB N zs = true) (j L : Int) (hj : 0 ≤ j ∧ j ≤ (N : Int) - 1) (hL : -1000 ≤ L ∧ L ≤ 1000) (u : Value) (w : World) (h : RdLimb w u zs) :
    Calls Try.prog 63 #[.agg #[.int .i64 N, u], .int .i64 j, .int .i64 L] w fun e w' => ∃ (M : Nat) (ys : List LimbV) (v : Value) (b : Bool), e = .returned (.tuple #[.agg #[.int .i64 M, v], .bool b]) ∧ bodyB M ys = true ∧ OwLimb w' w.heap.size v ys ∧ Below w.heap.size w w' := by
  obtain ⟨ad, cap, rfl⟩ := h.shape
  have hN := (body_treeN hb).1
  have hzl : (zs.length : Int) = (N : Int) - 1 := (body_open hb).2.1
  have hb0 := below_alloc1 w (.cells #[.int .i64 N, .slice ad zs.length cap] 26)
  have hx0 := BX.new w N (.slice ad zs.length cap)
  have hsa : (w.alloc (.cells #[.int .i64 N, .slice ad zs.length cap] 26)).heap.size = w.heap.size + 1 := by simp
  have hb1 := below_alloc1 (w.alloc (.cells #[.int .i64 N, .slice ad zs.length cap] 26)) (.cells #[.int .i64 0, .slice none 0 0] 26)
  have hr := BR.made (w.alloc (.cells #[.int .i64 N, .slice ad zs.length cap] 26)) (w.heap.size + 1) (by omega) 0 (.slice none 0 0)
  rw [hsa] at hr
  obtain ⟨W0, hW0⟩ : ∃ W0, (w.alloc (.cells #[.int .i64 N, .slice ad zs.length cap] 26)).alloc (.cells #[.int .i64 0, .slice none 0 0] 26) = W0 := ⟨_, rfl⟩
  have hs0 : W0.heap.size = w.heap.size + 2 := by rw [← hW0]; simp
  have HS := Lib.hid (And.intro (bvia hb0 hb1) (And.intro (hx0.below hb1) (And.intro ((h.below hb0).below hb1) hr)))
  rw [hW0] at HS
  replace hW0 := Lib.hid hW0
  replace hs0 := Lib.hid hs0
  have HZL := Lib.hid hzl
  have HRW := Lib.hid h
  clear hb0 hx0 h hb1 hsa hr hzl
  have HBO := Lib.hid (fun w' h => specBodyOk_any N zs (.slice ad zs.length cap) w' h)
  rw [hb] at HBO
  have HIN := Lib.hid (fun w' => l01In_any j 0 ((N : Int) - 1) w')
  rw [inB_true.2 hj] at HIN
  have HCP := Lib.hid (fun w' h => l02Copy_any N zs (by have := HZL.out; omega) (.slice ad zs.length cap) w' h)
  have HBV := Lib.hid hb
  clear hb
  go_enter Try.func63, Try.ntmps63
  go_wp2_with (fail)
  rw [hW0.out]
  obtain ⟨hB, hX, hR, hC⟩ := HS.out
  clear HS
  obtain ⟨m0, m1⟩ := id hX
  go_wp2_with (fail)
  refine (HBO.out _ hR).mono ?_
  rintro e w1 ⟨rfl, hb⟩
  replace hX := hX.below hb
  replace hR := hR.below hb
  replace hC := hC.below hb
  replace hB := bvia hB hb
  have hs1 := hb.size
  clear m0 m1 hb HBO
  obtain ⟨m0, m1⟩ := id hX
  go_wp2_with (fail)
  refine (HIN.out _).mono ?_
  rintro e w2 ⟨rfl, rfl⟩
  go_wp2_with (fail)
  refine (HCP.out _ hR).mono ?_
  rintro e w3 ⟨v1, rfl, o1, hb⟩
  replace hX := hX.below hb
  replace hR := hR.below hb
  replace hC := hC.below hb
  replace hB := bvia hB hb
  have hs3 := hb.size
  obtain ⟨x1, y1, rfl⟩ := o1.rd.shape
  clear m0 m1 hb
  obtain ⟨m0, m1⟩ := hX.below (below_alloc1 w3 (.cells #[.int .i64 N, .slice x1 zs.length y1] 26))
  have hba := below_alloc1 w3 (.cells #[.int .i64 ((N : Int) + 1), .slice x1 zs.length y1] 26)
  have hO := BR.made w3 w3.heap.size (Nat.le_refl _) ((N : Int) + 1) (.slice x1 zs.length y1)
  have hsd : (w3.alloc (.cells #[.int .i64 ((N : Int) + 1), .slice x1 zs.length y1] 26)).heap.size = w3.heap.size + 1 := by simp
  have hX2 := hX.below hba
  have hR2 := hR.below hba
  have hC2 := hC.below hba
  have hB2 := bvia hB hba
  have o12 := o1.below hba
  obtain ⟨k0, k1⟩ := id hX2
  obtain ⟨Wd, hWd⟩ : ∃ Wd, w3.alloc (.cells #[.int .i64 ((N : Int) + 1), .slice x1 zs.length y1] 26) = Wd := ⟨_, rfl⟩
  rw [hWd] at hO hX2 hR2 hC2 hB2 o12 hsd
  have hbl := below_alloc1 Wd (.cells #[.int .i64 j, .int .i64 N, .int .i64 L] 80)
  have hsl : (Wd.alloc (.cells #[.int .i64 j, .int .i64 N, .int .i64 L] 80)).heap.size = w3.heap.size + 2 := by simp [hsd]
  have hO3 := hO.below hbl
  have hX3 := hX2.below hbl
  have hR3 := hR2.below hbl
  have hC3 := hC2.below hbl
  have hB3 := bvia hB2 hbl
  have o13 := o12.below hbl
  have hrl := rdLimb_at Wd j N L (g := w3.heap.size + 1) hsd.symm
  have hl1 := o1.lt
  have hsz0 := hs0.out
  have hbw : w1.heap.size ≤ w3.heap.size + 2 := by omega
  have hbw2 : w1.heap.size ≤ (Wd.alloc (.cells #[.int .i64 j, .int .i64 N, .int .i64 L] 80)).heap.size := by rw [hsl]; exact hbw
  have HK := Lib.hid (And.intro hO3 (And.intro hX3 (And.intro hR3 (And.intro hC3 (And.intro hB3 (And.intro hl1 hsl))))))
  have hwd := Lib.hid hWd
  have hzl2 : zs.length ≤ 12 := by have := HZL.out; omega
  clear hba hO hX2 hR2 hC2 hB2 o12 hbl hO3 hX3 hR3 hC3 hB3 hX hR hC hB o1 hl1 hsd hsl hWd hbw
  rw [← hwd.out] at o13 hrl hbw2
  go_wp2_with (at_builtin; refine wpList_appLimb rfl (.tmp 29) (.tmp 35) rfl _ _ _ zs rfl o13 _ [(j, (N : Int), L)] rfl hrl (by simp <;> omega) hbw2 ?_; intro v2 w5 o2 hgr hfr; rw [hwd.out] at hgr hfr; obtain ⟨x2, y2, rfl⟩ : ∃ x y, v2 = .slice x (zs.length + 1) y := (by obtain ⟨x, y, e⟩ := o2.rd.shape; exact ⟨x, y, by simp [e]⟩); obtain ⟨hO3, hX3, hR3, hC3, hB3, hl1, hsl⟩ := HK.out; have hO4 := hO3.kept hgr (Dis.swap (dis_br (fun k hk => by have := (hl1 _ hk).2; omega))); have hX4 := hX3.keep hgr (fun e => by have := (hl1 _ e.symm).1; omega); have hC4 := hC3.kept hgr (Dis.swap (dis_br (fun k hk => by have := (hl1 _ hk).1; omega))); have hB4 := below_grown hB3 hgr (fun k hk => (hl1 _ hk).1) (by omega); obtain ⟨⟨d0, d1⟩, f0, f1⟩ := hO4.cells; have hp := hO4.set1 (.slice x2 (zs.length + 1) y2); obtain ⟨⟨n0, n1⟩, _⟩ := hp.1.cells; have hs5 := hgr.size; have hob : ∀ k, (Value.slice x2 (zs.length + 1) y2).ownBlock = some k → k ≠ w3.heap.size ∧ w1.heap.size ≤ k := (by intro k hk; have hlb := (o2.lt k hk).1; refine ⟨?_, hlb⟩; rcases hfr with e | ⟨m, e, hm⟩; (rw [e] at hk; have := (hl1 k hk).2; omega); (rw [e] at hk; simp only [Option.some.injEq] at hk; omega)); have hHF := Lib.hid (And.intro hp (And.intro (o2.kept hp.2 (dis_br (fun k hk => (hob k hk).1))) (And.intro (hX4.keep hp.2 (fun e => by have := brV_own _ _ e.symm; omega)) (And.intro (hC4.kept hp.2 (dis_addr (by omega))) (below_grown hB4 hp.2 (fun k hk => by rw [brV_own _ k hk]; exact Nat.le_refl _) (by omega)))))); clear hgr hfr o13 hrl HK hp o2 hX4 hC4 hB4 hO4 hO3 hX3 hR3 hC3 hB3)
  generalize hW6 : w5.setCell ⟨w3.heap.size, 1, none⟩ (.slice x2 (zs.length + 1) y2) = w6 at hHF ⊢
  obtain ⟨⟨hO, _⟩, o2, hX, hC, hB⟩ := hHF.out
  have hR := HRW.out.below hB
  have hys : (zs ++ [(j, (N : Int), L)]).length = zs.length + 1 := by simp
  generalize zs ++ [(j, (N : Int), L)] = ys at o2 hys
  have HYS := Lib.hid hys
  clear hW6 hHF d0 d1 f0 f1 n0 n1 m0 m1 k0 k1 hys
  have HBO2 := Lib.hid (fun w' h => specBodyOk_any ((N : Int) + 1) ys (.slice x2 (zs.length + 1) y2) w' h)
  cases hb2 : bodyB ((N : Int) + 1) ys with
  | true =>
    rw [hb2] at HBO2
    have HB2 := Lib.hid hb2
    clear hb2
    refine (HBO2.out _ o2.rd).mono ?_
    rintro e w7 ⟨rfl, hb⟩
    replace hO := hO.below hb
    replace o2 := o2.below hb
    replace hC := hC.below hb
    replace hB := bvia hB hb
    clear hb HBO2 hX hR
    obtain ⟨⟨m0, m1⟩, _⟩ := hO.cells
    obtain ⟨⟨d0, d1⟩, f0, f1⟩ := hC.cells
    have hp := hC.put ((N : Int) + 1) (.slice x2 (zs.length + 1) y2)
    have o3 := (o2.kept hp.2 (dis_br (fun k hk => by have := (hob k hk).2; omega))).base (show w.heap.size ≤ w1.heap.size by omega)
    have hB4 := below_grown hB hp.2 (fun k hk => by rw [brV_own _ k hk]; exact Nat.le_succ _) (Nat.le_refl _)
    obtain ⟨⟨n0, n1⟩, _⟩ := hp.1.cells
    have HF := Lib.hid (And.intro o3 hB4)
    clear hp o3 hB4 o2 hC hB hO
    go_wp2_with (fail)
    (try simp only [Exit.inBlock, Exit.then])
    refine bodyPost_ret (by simp [results, Try.results63, go_sem, n0, n1]; try rfl) rfl ?_
    exact ⟨N + 1, ys, _, true, rfl, HB2.out, HF.out⟩
  | false =>
    rw [hb2] at HBO2
    clear hb2
    refine (HBO2.out _ o2.rd).mono ?_
    rintro e w7 ⟨rfl, hb⟩
    replace hX := hX.below hb
    replace hR := hR.below hb
    replace hC := hC.below hb
    replace hB := bvia hB hb
    clear hb HBO2 hO o2
    obtain ⟨m0, m1⟩ := id hX
    go_wp2_with (fail)
    refine (HCP.out _ hR).mono ?_
    rintro e w8 ⟨v3, rfl, o3, hb⟩
    have hb7 := hC.lt
    have hwb := hB.size
    replace hC := hC.below hb
    replace hB := bvia hB hb
    obtain ⟨x3, y3, rfl⟩ := o3.rd.shape
    clear hb m0 m1 hX hR
    obtain ⟨⟨d0, d1⟩, f0, f1⟩ := hC.cells
    have hp := hC.put N (.slice x3 zs.length y3)
    have o4 := (o3.kept hp.2 (dis_br (fun k hk => by have := (o3.lt k hk).1; omega))).base hwb
    have hB4 := below_grown hB hp.2 (fun k hk => by rw [brV_own _ k hk]; exact Nat.le_succ _) (Nat.le_refl _)
    obtain ⟨⟨n0, n1⟩, _⟩ := hp.1.cells
    have HF := Lib.hid (And.intro o4 hB4)
    clear hp o4 hB4 o3 hC hB
    go_wp2_with (fail)
    (try simp only [Exit.inBlock, Exit.then])
    refine bodyPost_ret (by simp [results, Try.results63, go_sem, n0, n1]; try rfl) rfl ?_
    exact ⟨N, zs, _, false, rfl, HBV.out, HF.out⟩
end Go.Proofs.Ytfedhjfijcnpdaa
