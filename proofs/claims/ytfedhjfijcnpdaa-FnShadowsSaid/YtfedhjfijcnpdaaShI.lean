/- The walks of ShadowSize and PuppetFor, program and reference: they return the same number. -/
import Derived.Test.YtfedhjfijcnpdaaBase
namespace Go.Proofs.Ytfedhjfijcnpdaa
open Go.ChangeShapes Go.WideShapes Go.ChangeAt Go.RowKit Go.Joins

/-- The size of a shadow. -/
def shadowSize (z p s : Int) : Int := if inB z 0 1000 = true ∧ inB s 1 1000 = true ∧ inB p 1 s = true then z * s / p else -1
theorem implShadowSize_any (z p s : Int) (w : World) : Calls Try.prog 22 #[.int .i64 z, .int .i64 p, .int .i64 s] w fun e w' => e = .returned (.int .i64 (shadowSize z p s)) ∧ w = w' := by
  by_cases hg : inB z 0 1000 = true ∧ inB s 1 1000 = true ∧ inB p 1 s = true
  · have hp : shadowSize z p s = z * s / p := if_pos hg
    rw [hp]
    obtain ⟨h1, h2, h3⟩ := hg
    obtain ⟨b1, b2⟩ := inB_true.1 h1
    obtain ⟨b3, b4⟩ := inB_true.1 h2
    obtain ⟨b5, b6⟩ := inB_true.1 h3
    have m1 : 0 ≤ z * s := Int.mul_nonneg b1 (by omega)
    have m2 : z * s ≤ 1000000 := Int.le_trans (Int.mul_le_mul b2 b4 (by omega) (by omega)) (by decide)
    clear hp
    go_enter Try.func22, Try.ntmps22
    go_wp2_with (go_at_call 49; refine (within_any _ _ _ _).mono ?_; rintro e w' ⟨rfl, rfl⟩)
    go_returns
    exact ⟨rfl, rfl⟩
  · have hp : shadowSize z p s = -1 := if_neg hg
    rw [hp]
    clear hp
    go_enter Try.func22, Try.ntmps22
    go_wp2_with (go_at_call 49; refine (within_any _ _ _ _).mono ?_; rintro e w' ⟨rfl, rfl⟩)
    all_goals first | (exfalso; simp_all; done) | (go_returns; exact ⟨rfl, rfl⟩)

/-- The greatest distance from n down with a shadow of at least q; -1 if there is none. -/
def pfS (z q s : Int) : Nat → Int
  | 0 => -1
  | n + 1 => if q ≤ z * s / ((n + 1 : Nat) : Int) then ((n + 1 : Nat) : Int) else pfS z q s n
def puppetFor (z q s : Int) : Int := if inB z 0 1000 = true ∧ inB q 0 1000000 = true ∧ inB s 1 1000 = true then pfS z q s s.toNat else -1
theorem pfS_pos (z q s : Int) (p : Nat) (h : 0 < p) : pfS z q s p = if q ≤ z * s / (p : Int) then (p : Int) else pfS z q s (p - 1) := by
  cases p with
  | zero => omega
  | succ n => rfl
theorem implPuppetFor_any (z q s : Int) (w : World) : Calls Try.prog 23 #[.int .i64 z, .int .i64 q, .int .i64 s] w fun e w' => e = .returned (.int .i64 (puppetFor z q s)) ∧ w = w' := by
  by_cases hg : inB z 0 1000 = true ∧ inB q 0 1000000 = true ∧ inB s 1 1000 = true
  · have hp : puppetFor z q s = pfS z q s s.toNat := if_pos hg
    rw [hp]
    obtain ⟨h1, h2, h3⟩ := hg
    obtain ⟨b1, b2⟩ := inB_true.1 h1
    obtain ⟨b3, b4⟩ := inB_true.1 h2
    obtain ⟨b5, b6⟩ := inB_true.1 h3
    have m1 : 0 ≤ z * s := Int.mul_nonneg b1 (by omega)
    have m2 : z * s ≤ 1000000 := Int.le_trans (Int.mul_le_mul b2 b6 (by omega) (by omega)) (by decide)
    clear hp
    go_enter Try.func23, Try.ntmps23
    go_wp2_with (first
      | (go_at_call 49; refine (within_any _ _ _ _).mono ?_; rintro e w' ⟨rfl, rfl⟩)
      | (go_at_call 22; refine (implShadowSize_any _ _ _ _).mono ?_; rintro e w' ⟨rfl, rfl⟩))
    go_loop [7] (fun v => ∃ p : Nat, v = .int .i64 (p : Int) ∧ (p : Int) ≤ s ∧ Hid (pfS z q s p = pfS z q s s.toNat)) (fun v => (intOf v).toNat)
    case atStart => exact ⟨s.toNat, by rw [Int.toNat_of_nonneg (by omega)], by omega, rfl⟩
    case round =>
      obtain ⟨p, rfl, hps, H⟩ := hrel
      by_cases hp0 : 1 ≤ p
      · have hsz : Hid (shadowSize z p s = z * s / (p : Int)) := if_pos ⟨h1, h3, inB_true.2 ⟨by omega, hps⟩⟩
        have hpp : Hid (pfS z q s p = if q ≤ z * s / (p : Int) then (p : Int) else pfS z q s (p - 1)) := pfS_pos z q s p (by omega)
        have hd0 : 0 ≤ z * s / (p : Int) := Int.ediv_nonneg m1 (by omega)
        have hd1 : z * s / (p : Int) ≤ 1000000 := Int.le_trans (Int.ediv_le_self _ m1) m2
        go_wp2_with (first
      | (go_at_call 49; refine (within_any _ _ _ _).mono ?_; rintro e w' ⟨rfl, rfl⟩)
      | (go_at_call 22; refine (implShadowSize_any _ _ _ _).mono ?_; rintro e w' ⟨rfl, rfl⟩))
        · go_ret
          exact ⟨ret_int (by rw [← H.out, hpp.out, if_pos (by rw [← hsz.out]; assumption)]), rfl⟩
        · exact ⟨⟨p - 1, by rw [Int.natCast_sub hp0]; rfl, by omega, by show pfS _ _ _ _ = _; rw [← H.out, hpp.out, if_neg (by rw [← hsz.out]; omega)]⟩, by simp [intOf]; omega⟩
      · go_wp2_with (first
      | (go_at_call 49; refine (within_any _ _ _ _).mono ?_; rintro e w' ⟨rfl, rfl⟩)
      | (go_at_call 22; refine (implShadowSize_any _ _ _ _).mono ?_; rintro e w' ⟨rfl, rfl⟩))
        go_ret
        obtain rfl : p = 0 := by omega
        exact ⟨ret_int (by rw [← H.out]; rfl), rfl⟩
  · have hp : puppetFor z q s = -1 := if_neg hg
    rw [hp]
    clear hp
    go_enter Try.func23, Try.ntmps23
    go_wp2_with (go_at_call 49; refine (within_any _ _ _ _).mono ?_; rintro e w' ⟨rfl, rfl⟩)
    all_goals first | (exfalso; simp_all; done) | (go_returns; exact ⟨rfl, rfl⟩)

end Go.Proofs.Ytfedhjfijcnpdaa
