/- The walks of StepsBetween, program and reference: they return the same number. -/
import Derived.Test.YtcpkbohopicabaaAll
namespace Go.Proofs.Ytcpkbohopicabaa
open Go.ChangeShapes Go.WideShapes Go.ChangeAt Go.RowKit Go.Joins

theorem size_any (n : Int) (h1 : -4611686018427387904 ≤ n) (h2 : n ≤ 4611686018427387904) (w : World) : Calls Try.prog 57 #[.int .i64 n] w fun e w' => e = .returned (.int .i64 (max n (-n))) ∧ w = w' := by
  go_enter Try.func57, Try.ntmps57
  go_wp2
  all_goals (go_ret; exact ⟨ret_int (by omega), rfl⟩)
def stepsBetween (a b c d : Int) : Int := if allB [a, b, c, d] (-1000) 1000 = true then max (max (a - c) (-(a - c))) (max (b - d) (-(b - d))) else -1
theorem implStepsBetween_any (a b c d : Int) (w : World) : Calls Try.prog 39 #[.agg #[.int .i64 a, .int .i64 b], .agg #[.int .i64 c, .int .i64 d]] w fun e w' => e = .returned (.int .i64 (stepsBetween a b c d)) ∧ Below w.heap.size w w' := by
  have hrd : ∀ (w1 : World) (g : Nat), w1.heap.size = g → RdI (w1.alloc (.cells #[.int .i64 a, .int .i64 b, .int .i64 c, .int .i64 d] 3)) (.slice (some ⟨g, 0, none⟩) 4 4) [a, b, c, d] := by
    intro w1 g hg
    subst hg
    refine ⟨_, 4, _, 0, rfl, Nat.le_refl _, by decide, fun _ => rfl, fun j u hj => ?_⟩
    match j, hj with
    | 0, hj => simp [ints] at hj; subst hj; simp
    | 1, hj => simp [ints] at hj; subst hj; simp
    | 2, hj => simp [ints] at hj; subst hj; simp
    | 3, hj => simp [ints] at hj; subst hj; simp
  have HR := Lib.hid hrd
  clear hrd
  have hbe := below_alloc3 w (.cells #[.int .i64 a, .int .i64 b] 50) (.cells #[.int .i64 c, .int .i64 d] 50) (.cells #[.int .i64 a, .int .i64 b, .int .i64 c, .int .i64 d] 3)
  by_cases hg : allB [a, b, c, d] (-1000) 1000 = true
  · have hp : stepsBetween a b c d = max (max (a - c) (-(a - c))) (max (b - d) (-(b - d))) := if_pos hg
    rw [hp]
    clear hp
    have hm := allB_mem hg
    obtain ⟨a1, a2⟩ := hm a (by simp)
    obtain ⟨b1, b2⟩ := hm b (by simp)
    obtain ⟨c1, c2⟩ := hm c (by simp)
    obtain ⟨d1, d2⟩ := hm d (by simp)
    clear hm
    go_enter Try.func39, Try.ntmps39
    go_wp2_with (go_at_call 47; (refine (allWithin_any [a, b, c, d] _ _ _ _ (HR.out _ _ (by simp))).mono ?_; rintro e w' ⟨rfl, rfl⟩))
    go_quiet ((go_at_call 57; exact Calls.quiet_of_same (same_symm (size_any _ (by omega) (by omega) _))))
    go_wp2
    all_goals (go_ret; exact ⟨ret_int (by omega), hbe.trans (below_draws _ _ _)⟩)
  · have hp : stepsBetween a b c d = -1 := if_neg hg
    rw [hp]
    clear hp
    go_enter Try.func39, Try.ntmps39
    go_wp2_with (go_at_call 47; (refine (allWithin_any [a, b, c, d] _ _ _ _ (HR.out _ _ (by simp))).mono ?_; rintro e w' ⟨rfl, rfl⟩))
    go_returns
    exact ⟨rfl, hbe⟩
theorem all4 (a b c d : Int) : allB [a, b, c, d] (-1000) 1000 = true ↔ inB a (-1000) 1000 = true ∧ inB b (-1000) 1000 = true ∧ inB c (-1000) 1000 = true ∧ inB d (-1000) 1000 = true := by simp [allB]
theorem specStepsBetween_any (a b c d : Int) (w : World) : Calls Try.prog 52 #[.agg #[.int .i64 a, .int .i64 b], .agg #[.int .i64 c, .int .i64 d]] w fun e w' => e = .returned (.int .i64 (stepsBetween a b c d)) ∧ Below w.heap.size w w' := by
  have hbe := below_alloc2 w (.cells #[.int .i64 a, .int .i64 b] 50) (.cells #[.int .i64 c, .int .i64 d] 50)
  by_cases hg : allB [a, b, c, d] (-1000) 1000 = true
  · have hp : stepsBetween a b c d = max (max (a - c) (-(a - c))) (max (b - d) (-(b - d))) := if_pos hg
    rw [hp]
    clear hp
    obtain ⟨ha, hb, hc, hd⟩ := (all4 a b c d).1 hg
    obtain ⟨a1, a2⟩ := inB_true.1 ha
    obtain ⟨b1, b2⟩ := inB_true.1 hb
    obtain ⟨c1, c2⟩ := inB_true.1 hc
    obtain ⟨d1, d2⟩ := inB_true.1 hd
    clear hg
    go_enter Try.func52, Try.ntmps52
    go_wp2_with (go_at_call 41; refine (l01In_any _ _ _ _).mono ?_; rintro e w' ⟨rfl, rfl⟩)
    all_goals (go_ret; exact ⟨ret_int (by omega), hbe⟩)
  · have hp : stepsBetween a b c d = -1 := if_neg hg
    rw [hp]
    rw [all4] at hg
    clear hp
    go_enter Try.func52, Try.ntmps52
    go_wp2_with (go_at_call 41; refine (l01In_any _ _ _ _).mono ?_; rintro e w' ⟨rfl, rfl⟩)
    all_goals first | (exfalso; simp_all; done) | (go_returns; exact ⟨rfl, hbe⟩)

end Go.Proofs.Ytcpkbohopicabaa
