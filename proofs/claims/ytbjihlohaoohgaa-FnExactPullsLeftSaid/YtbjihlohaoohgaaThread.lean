/- The walks of ThreadOk and PullsLeft, program and reference. -/
import Derived.Test.YtbjihlohaoohgaaBase
namespace Go.Proofs.Ytbjihlohaoohgaa
open Go.ChangeShapes Go.WideShapes Go.ChangeAt Go.RowKit Go.Joins

theorem toThread_any (s u : Int) (w : World) : Calls Try.prog 10 #[.agg #[.int .i64 s, .int .i64 u]] w fun e w' => e = .returned (.agg #[.int .i64 s, .int .i64 u]) ∧ Below w.heap.size w w' := by
  go_enter Try.func10, Try.ntmps10
  go_wp2
  go_returns
  refine ⟨rfl, ?_⟩
  go_grown
def thOk (s u : Int) : Bool := inB s 1 10000 && inB u 0 s
theorem specThreadOk_any (s u : Int) (w : World) : Calls Try.prog 9 #[.agg #[.int .i64 s, .int .i64 u]] w fun e w' => e = .returned (.bool (thOk s u)) ∧ Below w.heap.size w w' := by
  go_enter Try.func9, Try.ntmps9
  go_wp2_with (go_at_call 23; refine (l01In_any _ _ _ _).mono ?_; rintro e w' ⟨rfl, rfl⟩)
  all_goals (go_returns; refine ⟨?_, ?_⟩; (simp [thOk, *]); go_grown)
theorem implThreadOk_any (s u : Int) (w : World) : Calls Try.prog 11 #[.agg #[.int .i64 s, .int .i64 u]] w fun e w' => e = .returned (.bool (thOk s u)) ∧ Below w.heap.size w w' := by
  go_enter Try.func11, Try.ntmps11
  go_wp2_with (go_at_call 24; refine (within_any _ _ _ _).mono ?_; rintro e w' ⟨rfl, rfl⟩)
  all_goals (go_returns; refine ⟨?_, ?_⟩; (simp [thOk, *]); go_grown)

def pullsLeft (s u x : Int) : Int := if thOk s u = true ∧ inB x 1 10000 = true then (s - u) / x else -1
theorem thOk_bd {s u : Int} (h : thOk s u = true) : 1 ≤ s ∧ s ≤ 10000 ∧ 0 ≤ u ∧ u ≤ s := by
  simp [thOk, inB] at h; omega
theorem specPullsLeft_any (s u x : Int) (w : World) : Calls Try.prog 16 #[.agg #[.int .i64 s, .int .i64 u], .int .i64 x] w fun e w' => e = .returned (.int .i64 (pullsLeft s u x)) ∧ Below w.heap.size w w' := by
  by_cases hg : thOk s u = true ∧ inB x 1 10000 = true
  · have hp : pullsLeft s u x = (s - u) / x := if_pos hg
    rw [hp]
    obtain ⟨h1, h2⟩ := hg
    obtain ⟨b1, b2, b3, b4⟩ := thOk_bd h1
    obtain ⟨b5, b6⟩ := inB_true.1 h2
    clear hp
    go_enter Try.func16, Try.ntmps16
    go_wp2_with (first
      | (go_at_call 23; refine (l01In_any _ _ _ _).mono ?_; rintro e w' ⟨rfl, rfl⟩)
      | (go_at_call 9; refine (specThreadOk_any _ _ _).mono ?_; rintro e w1 ⟨rfl, hb1⟩; obtain ⟨hc1, hf1⟩ := bcell hb1; have hz1 := hb1.size))
    go_returns
    refine ⟨rfl, ?_⟩
    exact below_via ((Below.refl _ _).alloc (Nat.le_refl _) _) hb1 (by simp)
  · have hp : pullsLeft s u x = -1 := if_neg hg
    rw [hp]
    clear hp
    go_enter Try.func16, Try.ntmps16
    go_wp2_with (first
      | (go_at_call 23; refine (l01In_any _ _ _ _).mono ?_; rintro e w' ⟨rfl, rfl⟩)
      | (go_at_call 9; refine (specThreadOk_any _ _ _).mono ?_; rintro e w1 ⟨rfl, hb1⟩; obtain ⟨hc1, hf1⟩ := bcell hb1; have hz1 := hb1.size))
    all_goals first | (exfalso; simp_all; done) | (go_returns; exact ⟨rfl, below_via ((Below.refl _ _).alloc (Nat.le_refl _) _) hb1 (by simp)⟩)
theorem implPullsLeft_any (s u x : Int) (w : World) : Calls Try.prog 17 #[.agg #[.int .i64 s, .int .i64 u], .int .i64 x] w fun e w' => e = .returned (.int .i64 (pullsLeft s u x)) ∧ Below w.heap.size w w' := by
  by_cases hg : thOk s u = true ∧ inB x 1 10000 = true
  · have hp : pullsLeft s u x = (s - u) / x := if_pos hg
    rw [hp]
    obtain ⟨h1, h2⟩ := hg
    obtain ⟨b1, b2, b3, b4⟩ := thOk_bd h1
    obtain ⟨b5, b6⟩ := inB_true.1 h2
    clear hp
    go_enter Try.func17, Try.ntmps17
    go_wp2_with (first
      | (go_at_call 24; refine (within_any _ _ _ _).mono ?_; rintro e w' ⟨rfl, rfl⟩)
      | (go_at_call 11; refine (implThreadOk_any _ _ _).mono ?_; rintro e w1 ⟨rfl, hb1⟩; obtain ⟨hc1, hf1⟩ := bcell hb1; have hz1 := hb1.size))
    go_returns
    refine ⟨rfl, ?_⟩
    exact below_via ((Below.refl _ _).alloc (Nat.le_refl _) _) hb1 (by simp)
  · have hp : pullsLeft s u x = -1 := if_neg hg
    rw [hp]
    clear hp
    go_enter Try.func17, Try.ntmps17
    go_wp2_with (first
      | (go_at_call 24; refine (within_any _ _ _ _).mono ?_; rintro e w' ⟨rfl, rfl⟩)
      | (go_at_call 11; refine (implThreadOk_any _ _ _).mono ?_; rintro e w1 ⟨rfl, hb1⟩; obtain ⟨hc1, hf1⟩ := bcell hb1; have hz1 := hb1.size))
    all_goals first | (exfalso; simp_all; done) | (go_returns; exact ⟨rfl, below_via ((Below.refl _ _).alloc (Nat.le_refl _) _) hb1 (by simp)⟩)

theorem walkFnExactThreadOk (s u : Int) (w : World) : Calls Try.prog 3 #[.agg #[.int .i64 s, .int .i64 u]] w fun e w' => e = .returned (.bool true) ∧ Below w.heap.size w w' := by
  have hB := below_alloc1 w (.cells #[.int .i64 s, .int .i64 u] 23)
  go_enter Try.func3, Try.ntmps3
  go_wp2_with (first
    | (go_at_call 10; (refine (toThread_any _ _ _).mono ?_; rintro e w1 ⟨rfl, hb1⟩; obtain ⟨hc1, hf1⟩ := bcell hb1; have hz1 : w.heap.size < w1.heap.size := (by have := hb1.size; simp only [World.size_alloc] at *; omega); replace hB := below_via hB hb1 (by simp only [World.size_alloc] at *; omega)))
    | (go_at_call 9; (refine (specThreadOk_any _ _ _).mono ?_; rintro e w2 ⟨rfl, hb2⟩; obtain ⟨hc2, hf2⟩ := bcell hb2; have hz2 : w.heap.size < w2.heap.size := (by have := hb2.size; simp only [World.size_alloc] at *; omega); replace hB := below_via hB hb2 (by simp only [World.size_alloc] at *; omega)))
    | (go_at_call 11; (refine (implThreadOk_any _ _ _).mono ?_; rintro e w3 ⟨rfl, hb3⟩; obtain ⟨hc3, hf3⟩ := bcell hb3; have hz3 : w.heap.size < w3.heap.size := (by have := hb3.size; simp only [World.size_alloc] at *; omega); replace hB := below_via hB hb3 (by simp only [World.size_alloc] at *; omega))))
  go_returns
  exact ⟨rfl, hB⟩
theorem walkFnExactPullsLeft (s u x : Int) (w : World) : Calls Try.prog 6 #[.agg #[.int .i64 s, .int .i64 u], .int .i64 x] w fun e w' => e = .returned (.bool true) ∧ Below w.heap.size w w' := by
  have hB := below_alloc1 w (.cells #[.int .i64 s, .int .i64 u] 23)
  go_enter Try.func6, Try.ntmps6
  go_wp2_with (first
    | (go_at_call 10; (refine (toThread_any _ _ _).mono ?_; rintro e w1 ⟨rfl, hb1⟩; obtain ⟨hc1, hf1⟩ := bcell hb1; have hz1 : w.heap.size < w1.heap.size := (by have := hb1.size; simp only [World.size_alloc] at *; omega); replace hB := below_via hB hb1 (by simp only [World.size_alloc] at *; omega)))
    | (go_at_call 16; (refine (specPullsLeft_any _ _ _ _).mono ?_; rintro e w2 ⟨rfl, hb2⟩; obtain ⟨hc2, hf2⟩ := bcell hb2; have hz2 : w.heap.size < w2.heap.size := (by have := hb2.size; simp only [World.size_alloc] at *; omega); replace hB := below_via hB hb2 (by simp only [World.size_alloc] at *; omega)))
    | (go_at_call 17; (refine (implPullsLeft_any _ _ _ _).mono ?_; rintro e w3 ⟨rfl, hb3⟩; obtain ⟨hc3, hf3⟩ := bcell hb3; have hz3 : w.heap.size < w3.heap.size := (by have := hb3.size; simp only [World.size_alloc] at *; omega); replace hB := below_via hB hb3 (by simp only [World.size_alloc] at *; omega))))
  go_returns
  exact ⟨rfl, hB⟩
end Go.Proofs.Ytbjihlohaoohgaa
