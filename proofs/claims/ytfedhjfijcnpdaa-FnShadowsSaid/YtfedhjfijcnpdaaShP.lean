/- Shadows (plain law). -/
import Derived.Test.YtfedhjfijcnpdaaShI
import Derived.Test.YtfedhjfijcnpdaaShOfI
import Derived.Test.YtfedhjfijcnpdaaCovI
import Derived.Test.YtfedhjfijcnpdaaTreeL
namespace Go.Proofs.Ytfedhjfijcnpdaa
open Tr
set_option linter.unusedVariables false
theorem size_eq {z p s : Int} (hz : 0 ≤ z ∧ z ≤ 1000) (hs : 1 ≤ s ∧ s ≤ 1000) (hp : 1 ≤ p ∧ p ≤ s) : shadowSize z p s = z * s / p := if_pos ⟨inB_true.2 hz, inB_true.2 hs, inB_true.2 hp⟩
theorem size_ge {z p s : Int} (hz : 0 ≤ z ∧ z ≤ 1000) (hs : 1 ≤ s ∧ s ≤ 1000) (hp : 1 ≤ p ∧ p ≤ s) : z ≤ shadowSize z p s := by
  rw [size_eq hz hs hp]
  exact Int.le_ediv_of_mul_le (by omega) (Int.mul_le_mul_of_nonneg_left hp.2 hz.1)
theorem size_self {z s : Int} (hz : 0 ≤ z ∧ z ≤ 1000) (hs : 1 ≤ s ∧ s ≤ 1000) : shadowSize z s s = z := by
  rw [size_eq hz hs ⟨hs.1, Int.le_refl _⟩]
  exact Int.mul_ediv_cancel _ (by omega)
theorem size_bd {z p s : Int} (hz : 0 ≤ z ∧ z ≤ 1000) (hs : 1 ≤ s ∧ s ≤ 1000) (hp : 1 ≤ p ∧ p ≤ s) : 0 ≤ shadowSize z p s ∧ shadowSize z p s ≤ 1000000 := by
  have h1 := size_ge hz hs hp
  rw [size_eq hz hs hp] at h1 ⊢
  have m1 : 0 ≤ z * s := Int.mul_nonneg hz.1 (by omega)
  have m2 : z * s ≤ 1000000 := Int.le_trans (Int.mul_le_mul hz.2 hs.2 (by omega) (by omega)) (by decide)
  have := Int.ediv_le_self p m1
  omega
theorem pfS_spec (z q s : Int) : ∀ n : Nat, (pfS z q s n = -1 ∧ ∀ p : Int, 1 ≤ p → p ≤ n → z * s / p < q) ∨ (1 ≤ pfS z q s n ∧ pfS z q s n ≤ n ∧ q ≤ z * s / pfS z q s n ∧ ∀ p : Int, pfS z q s n < p → p ≤ n → z * s / p < q)
  | 0 => .inl ⟨rfl, fun p h1 h2 => by omega⟩
  | n + 1 => by
    have ih := pfS_spec z q s n
    rw [pfS]
    by_cases h : q ≤ z * s / ((n + 1 : Nat) : Int)
    · rw [if_pos h]
      exact .inr ⟨by omega, Int.le_refl _, h, fun p h1 h2 => by omega⟩
    · rw [if_neg h]
      have key : ∀ p : Int, p ≤ ((n + 1 : Nat) : Int) → ¬ p ≤ n → z * s / p < q := fun p h1 h2 => by
        obtain rfl : p = ((n + 1 : Nat) : Int) := by omega
        omega
      rcases ih with ⟨e, h1⟩ | ⟨h1, h2, h3, h4⟩
      · refine .inl ⟨e, fun p p1 p2 => ?_⟩
        by_cases hp : p ≤ n
        · exact h1 p p1 hp
        · exact key p p2 hp
      · refine .inr ⟨h1, by omega, h3, fun p p1 p2 => ?_⟩
        by_cases hp : p ≤ n
        · exact h4 p p1 hp
        · exact key p p2 hp
theorem puppet_spec {z q s : Int} (hz : 0 ≤ z ∧ z ≤ 1000) (hs : 1 ≤ s ∧ s ≤ 1000) (hq : 0 ≤ q ∧ q ≤ 1000000) :
    -1 ≤ puppetFor z q s ∧ puppetFor z q s ≤ s ∧ (1 ≤ puppetFor z q s → q ≤ shadowSize z (puppetFor z q s) s ∧ (puppetFor z q s < s → shadowSize z (puppetFor z q s + 1) s < q)) ∧ (puppetFor z q s < 1 → shadowSize z 1 s < q) := by
  have e : puppetFor z q s = pfS z q s s.toNat := if_pos ⟨inB_true.2 hz, inB_true.2 hq, inB_true.2 hs⟩
  have hst : ((s.toNat : Nat) : Int) = s := by omega
  have h := pfS_spec z q s s.toNat
  rw [← e, hst] at h
  rcases h with ⟨e1, h1⟩ | ⟨h1, h2, h3, h4⟩
  · rw [e1]
    refine ⟨by omega, by omega, fun h => by omega, fun _ => ?_⟩
    rw [size_eq hz hs (by omega)]
    exact h1 1 (by omega) (by omega)
  · refine ⟨by omega, h2, fun _ => ⟨?_, fun hl => ?_⟩, fun h => by omega⟩
    · rw [size_eq hz hs ⟨h1, h2⟩]; exact h3
    · rw [size_eq hz hs (by omega)]
      exact h4 _ (by omega) (by omega)
theorem shadow_rl {N : Nat} {f : Nat → Int} (hN : N ≤ 12) (hf : ∀ v, v < N → -2000 ≤ f v ∧ f v ≤ 500) {p s : Int} (hs : 1 ≤ s ∧ s ≤ 1000) (hp : 1 ≤ p ∧ p ≤ s) : shadowOf (rl N f) 20 p s = rl N fun v => shadowAt 20 p s (f v) := by
  unfold shadowOf
  rw [if_pos]
  · unfold rl
    rw [List.map_map]
    rfl
  · refine ⟨by rw [rl_len]; exact hN, ?_, ?_⟩
    · unfold shadowOk
      rw [inB_true.2 (by omega), inB_true.2 hs, inB_true.2 hp]
      rfl
    · refine List.all_eq_true.2 fun z hz => ?_
      obtain ⟨v, hv, rfl⟩ := List.mem_map.1 hz
      have := hf v (List.mem_range.1 hv)
      exact inB_true.2 (by omega)
theorem shadow_self {s x : Int} (hs : 1 ≤ s) : shadowAt 20 s s x = x := by
  unfold shadowAt
  rw [Int.mul_ediv_cancel _ (by omega)]
  omega
theorem shadow_mono {p s x y : Int} (hp : 1 ≤ p) (hs : 1 ≤ s) (h : x ≤ y) : shadowAt 20 p s x ≤ shadowAt 20 p s y := by
  unfold shadowAt
  have := Int.ediv_le_ediv (by omega : 0 < p) (Int.mul_le_mul_of_nonneg_right (by omega : x - 20 ≤ y - 20) (by omega : 0 ≤ s))
  omega
set_option maxRecDepth 100000 in
theorem covers_yes : ∀ k : Nat, k < 50 → coversB [[0, (k : Int)], [(k : Int) + 1, 60]] 0 60 = true ∧ coversB [[0, (k : Int)], [(k : Int) + 2, 60]] 0 60 = false := by decide +kernel
theorem size_last : shadowSize 10 5 4 = -1 := by decide
end Go.Proofs.Ytfedhjfijcnpdaa
