/- The walks of StepsBetween, program and reference: they return the same number. -/
import Derived.Test.YtbjihlohaoohgaaAll
import Derived.Deep.QuietTactic
import Derived.BigQuiet
import Derived.Deep.RegionHeld3
namespace Go.Proofs.Ytbjihlohaoohgaa
open Go.ChangeShapes Go.WideShapes Go.ChangeAt Go.RowKit Go.Joins

theorem toSpot_any (s u : Int) (w : World) : Calls Try.prog 19 #[.agg #[.int .i64 s, .int .i64 u]] w fun e w' => e = .returned (.agg #[.int .i64 s, .int .i64 u]) ∧ Below w.heap.size w w' := by
  go_enter Try.func19, Try.ntmps19
  go_wp2
  go_returns
  refine ⟨rfl, ?_⟩
  go_grown
theorem size_any (n : Int) (h1 : -4611686018427387904 ≤ n) (h2 : n ≤ 4611686018427387904) (w : World) : Calls Try.prog 26 #[.int .i64 n] w fun e w' => e = .returned (.int .i64 (max n (-n))) ∧ w = w' := by
  go_enter Try.func26, Try.ntmps26
  go_wp2
  all_goals (go_ret; exact ⟨ret_int (by omega), rfl⟩)
def stepsBetween (a b c d : Int) : Int := if allB [a, b, c, d] (-1000) 1000 = true then max (max (a - c) (-(a - c))) (max (b - d) (-(b - d))) else -1
theorem implStepsBetween_any (a b c d : Int) (w : World) : Calls Try.prog 20 #[.agg #[.int .i64 a, .int .i64 b], .agg #[.int .i64 c, .int .i64 d]] w fun e w' => e = .returned (.int .i64 (stepsBetween a b c d)) ∧ Below w.heap.size w w' := by
  have hrd : ∀ (w1 : World) (g : Nat), w1.heap.size = g → RdI (w1.alloc (.cells #[.int .i64 a, .int .i64 b, .int .i64 c, .int .i64 d] 3)) (.slice (some ⟨g, 0, none⟩) 4 4) [a, b, c, d] := by
    intro w1 g hg
    subst hg
    refine ⟨_, 4, _, 0, rfl, Nat.le_refl _, by decide, fun _ => rfl, fun j u hj => ?_⟩
    match j, hj with
    | 0, hj => simp [ints] at hj; subst hj; simp
    | 1, hj => simp [ints] at hj; subst hj; simp
    | 2, hj => simp [ints] at hj; subst hj; simp
    | 3, hj => simp [ints] at hj; subst hj; simp
  have HR := Lib.hid hrd
  clear hrd
  have hbe := below_alloc3 w (.cells #[.int .i64 a, .int .i64 b] 38) (.cells #[.int .i64 c, .int .i64 d] 38) (.cells #[.int .i64 a, .int .i64 b, .int .i64 c, .int .i64 d] 3)
  by_cases hg : allB [a, b, c, d] (-1000) 1000 = true
  · have hp : stepsBetween a b c d = max (max (a - c) (-(a - c))) (max (b - d) (-(b - d))) := if_pos hg
    rw [hp]
    clear hp
    have hm := allB_mem hg
    obtain ⟨a1, a2⟩ := hm a (by simp)
    obtain ⟨b1, b2⟩ := hm b (by simp)
    obtain ⟨c1, c2⟩ := hm c (by simp)
    obtain ⟨d1, d2⟩ := hm d (by simp)
    clear hm
    go_enter Try.func20, Try.ntmps20
    go_wp2_with (go_at_call 25; (refine (allWithin_any [a, b, c, d] _ _ _ _ (HR.out _ _ (by simp))).mono ?_; rintro e w' ⟨rfl, rfl⟩))
    go_quiet ((go_at_call 26; exact Calls.quiet_of_same (same_symm (size_any _ (by omega) (by omega) _))))
    go_wp2
    all_goals (go_ret; exact ⟨ret_int (by omega), hbe.trans (below_draws _ _ _)⟩)
  · have hp : stepsBetween a b c d = -1 := if_neg hg
    rw [hp]
    clear hp
    go_enter Try.func20, Try.ntmps20
    go_wp2_with (go_at_call 25; (refine (allWithin_any [a, b, c, d] _ _ _ _ (HR.out _ _ (by simp))).mono ?_; rintro e w' ⟨rfl, rfl⟩))
    go_returns
    exact ⟨rfl, hbe⟩
theorem all4 (a b c d : Int) : allB [a, b, c, d] (-1000) 1000 = true ↔ inB a (-1000) 1000 = true ∧ inB b (-1000) 1000 = true ∧ inB c (-1000) 1000 = true ∧ inB d (-1000) 1000 = true := by simp [allB]
theorem specStepsBetween_any (a b c d : Int) (w : World) : Calls Try.prog 18 #[.agg #[.int .i64 a, .int .i64 b], .agg #[.int .i64 c, .int .i64 d]] w fun e w' => e = .returned (.int .i64 (stepsBetween a b c d)) ∧ Below w.heap.size w w' := by
  have hbe := below_alloc2 w (.cells #[.int .i64 a, .int .i64 b] 38) (.cells #[.int .i64 c, .int .i64 d] 38)
  by_cases hg : allB [a, b, c, d] (-1000) 1000 = true
  · have hp : stepsBetween a b c d = max (max (a - c) (-(a - c))) (max (b - d) (-(b - d))) := if_pos hg
    rw [hp]
    clear hp
    obtain ⟨ha, hb, hc, hd⟩ := (all4 a b c d).1 hg
    obtain ⟨a1, a2⟩ := inB_true.1 ha
    obtain ⟨b1, b2⟩ := inB_true.1 hb
    obtain ⟨c1, c2⟩ := inB_true.1 hc
    obtain ⟨d1, d2⟩ := inB_true.1 hd
    clear hg
    go_enter Try.func18, Try.ntmps18
    go_wp2_with (go_at_call 23; refine (l01In_any _ _ _ _).mono ?_; rintro e w' ⟨rfl, rfl⟩)
    all_goals (go_ret; exact ⟨ret_int (by omega), hbe⟩)
  · have hp : stepsBetween a b c d = -1 := if_neg hg
    rw [hp]
    rw [all4] at hg
    clear hp
    go_enter Try.func18, Try.ntmps18
    go_wp2_with (go_at_call 23; refine (l01In_any _ _ _ _).mono ?_; rintro e w' ⟨rfl, rfl⟩)
    all_goals first | (exfalso; simp_all; done) | (go_returns; exact ⟨rfl, hbe⟩)

theorem walkFnExactStepsBetween (a b c d : Int) (w : World) : Calls Try.prog 7 #[.agg #[.int .i64 a, .int .i64 b], .agg #[.int .i64 c, .int .i64 d]] w fun e w' => e = .returned (.bool true) ∧ Below w.heap.size w w' := by
  have hB := below_alloc2 w (.cells #[.int .i64 a, .int .i64 b] 36) (.cells #[.int .i64 c, .int .i64 d] 36)
  go_enter Try.func7, Try.ntmps7
  go_wp2
  obtain ⟨W, hW⟩ : ∃ W, W = (w.alloc (.cells #[.int .i64 a, .int .i64 b] 36)).alloc (.cells #[.int .i64 c, .int .i64 d] 36) := ⟨_, rfl⟩
  have k1 : W.cell? ⟨w.heap.size, 0, none⟩ = some (.int .i64 a) := by rw [hW]; simp [go_sem]
  have k2 : W.cell? ⟨w.heap.size, 1, none⟩ = some (.int .i64 b) := by rw [hW]; simp [go_sem]
  have k3 : W.cell? ⟨w.heap.size + 1, 0, none⟩ = some (.int .i64 c) := by rw [hW]; simp [go_sem]
  have k4 : W.cell? ⟨w.heap.size + 1, 1, none⟩ = some (.int .i64 d) := by rw [hW]; simp [go_sem]
  rw [← hW] at hB ⊢
  clear hW
  replace hB := hB.drew
  go_region_held3 (fun w' => w'.cell? ⟨w.heap.size, 0, none⟩ = some (.int .i64 a) ∧ w'.cell? ⟨w.heap.size, 1, none⟩ = some (.int .i64 b) ∧ w'.cell? ⟨w.heap.size + 1, 0, none⟩ = some (.int .i64 c) ∧ w'.cell? ⟨w.heap.size + 1, 1, none⟩ = some (.int .i64 d)) (exact ⟨k1, k2, k3, k4⟩) (first
    | (go_at_call 19; (refine (toSpot_any _ _ _).mono ?_; rintro e w1 ⟨rfl, hb1⟩; replace hB := bvia hB hb1; replace k1 := cell_on hb1 k1; replace k2 := cell_on hb1 k2; replace k3 := cell_on hb1 k3; replace k4 := cell_on hb1 k4; clear hb1))
    | (go_at_call 18; (refine (specStepsBetween_any _ _ _ _ _).mono ?_; rintro e w2 ⟨rfl, hb2⟩; replace hB := bvia hB hb2; replace k1 := cell_on hb2 k1; replace k2 := cell_on hb2 k2; replace k3 := cell_on hb2 k3; replace k4 := cell_on hb2 k4; clear hb2))
    | (go_at_call 20; (refine (implStepsBetween_any _ _ _ _ _).mono ?_; rintro e w3 ⟨rfl, hb3⟩; replace hB := bvia hB hb3; replace k1 := cell_on hb3 k1; replace k2 := cell_on hb3 k2; replace k3 := cell_on hb3 k3; replace k4 := cell_on hb3 k4; clear hb3)))
  go_wp2
  replace hB := hB.drew
  go_region_held3 (fun w' => w'.cell? ⟨w.heap.size, 0, none⟩ = some (.int .i64 a) ∧ w'.cell? ⟨w.heap.size, 1, none⟩ = some (.int .i64 b) ∧ w'.cell? ⟨w.heap.size + 1, 0, none⟩ = some (.int .i64 c) ∧ w'.cell? ⟨w.heap.size + 1, 1, none⟩ = some (.int .i64 d)) (exact ⟨k1, k2, k3, k4⟩) (first
    | (go_at_call 19; (refine (toSpot_any _ _ _).mono ?_; rintro e w1 ⟨rfl, hb1⟩; replace hB := bvia hB hb1; replace k1 := cell_on hb1 k1; replace k2 := cell_on hb1 k2; replace k3 := cell_on hb1 k3; replace k4 := cell_on hb1 k4; clear hb1))
    | (go_at_call 18; (refine (specStepsBetween_any _ _ _ _ _).mono ?_; rintro e w2 ⟨rfl, hb2⟩; replace hB := bvia hB hb2; replace k1 := cell_on hb2 k1; replace k2 := cell_on hb2 k2; replace k3 := cell_on hb2 k3; replace k4 := cell_on hb2 k4; clear hb2))
    | (go_at_call 20; (refine (implStepsBetween_any _ _ _ _ _).mono ?_; rintro e w3 ⟨rfl, hb3⟩; replace hB := bvia hB hb3; replace k1 := cell_on hb3 k1; replace k2 := cell_on hb3 k2; replace k3 := cell_on hb3 k3; replace k4 := cell_on hb3 k4; clear hb3)))
  go_wp2
  go_returns
  exact ⟨rfl, hB⟩
end Go.Proofs.Ytbjihlohaoohgaa
