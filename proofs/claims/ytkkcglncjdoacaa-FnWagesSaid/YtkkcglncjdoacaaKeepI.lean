/- The walks of KeepBack, program and reference: they return the same two numbers. -/
import Derived.Test.YtkkcglncjdoacaaBase
namespace Go.Proofs.Ytkkcglncjdoacaa
open Go.ChangeShapes Go.WideShapes Go.ChangeAt Go.RowKit Go.Joins

def keepsB (s p : Int) : Bool := inB s 0 1000000 && inB p 0 100
def kept (s p : Int) : Int := if keepsB s p = true then (s * p + 99) / 100 else 0
def given (s p : Int) : Int := if keepsB s p = true then s - (s * p + 99) / 100 else 0
theorem implKeepBack_any (s p : Int) (w : World) : Calls Try.prog 10 #[.int .i64 s, .int .i64 p] w fun e w' => e = .returned (.tuple #[.int .i64 (kept s p), .int .i64 (given s p)]) ∧ w = w' := by
  by_cases hg : keepsB s p = true
  · have hp : kept s p = (s * p + 99) / 100 := if_pos hg
    have hq : given s p = s - (s * p + 99) / 100 := if_pos hg
    rw [hp, hq]
    obtain ⟨h1, h2⟩ : inB s 0 1000000 = true ∧ inB p 0 100 = true := by simpa [keepsB] using hg
    obtain ⟨b1, b2⟩ := inB_true.1 h1
    obtain ⟨b3, b4⟩ := inB_true.1 h2
    have m1 : 0 ≤ s * p := Int.mul_nonneg b1 (by omega)
    have m2 : s * p ≤ 100000000 := Int.le_trans (Int.mul_le_mul b2 b4 (by omega) (by omega)) (by decide)
    clear hp hq hg
    go_enter Try.func10, Try.ntmps10
    go_wp2_with (go_at_call 24; refine (within_any _ _ _ _).mono ?_; rintro e w' ⟨rfl, rfl⟩)
    go_returns
    exact ⟨rfl, rfl⟩
  · have hp : kept s p = 0 := if_neg hg
    have hq : given s p = 0 := if_neg hg
    rw [hp, hq]
    have hg' : ¬ (inB s 0 1000000 = true ∧ inB p 0 100 = true) := by simpa [keepsB] using hg
    clear hp hq hg
    go_enter Try.func10, Try.ntmps10
    go_wp2_with (go_at_call 24; refine (within_any _ _ _ _).mono ?_; rintro e w' ⟨rfl, rfl⟩)
    all_goals first | (exfalso; simp_all; done) | (go_returns; exact ⟨rfl, rfl⟩)

end Go.Proofs.Ytkkcglncjdoacaa
