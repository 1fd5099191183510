/- The walk of allWithin: whether all numbers of a list lie in a range. -/
import Derived.Test.YtfedhjfijcnpdaaMem
namespace Go.Proofs.Ytfedhjfijcnpdaa
open Go.ChangeShapes Go.WideShapes Go.ChangeAt Go.RowKit Go.Joins

/-- All numbers lie in the range. -/
def allB (zs : List Int) (a b : Int) : Bool := zs.all fun z => inB z a b
theorem allB_cons (z : Int) (zs : List Int) (a b : Int) : allB (z :: zs) a b = (inB z a b && allB zs a b) := rfl
theorem allB_mem {zs : List Int} {a b : Int} (h : allB zs a b = true) : ∀ z ∈ zs, a ≤ z ∧ z ≤ b := by
  intro z hz
  exact inB_true.1 (List.all_eq_true.1 h z hz)
theorem getD_lt {zs : List Int} {k : Nat} (h : k < zs.length) : zs.getD k 0 = zs[k] := by simp [h]

theorem allWithin_any (zs : List Int) (a b : Int) (v : Value) (w : World) (h : RdI w v zs) : Calls Try.prog 51 #[v, .int .i64 a, .int .i64 b] w fun e w' => e = .returned (.bool (allB zs a b)) ∧ w = w' := by
  obtain ⟨ad, cap, bl, off, rfl, hcap, hmax, had, hc⟩ := h.open
  have HC := Lib.hid hc
  clear h hc
  go_enter Try.func51, Try.ntmps51
  go_wp2
  go_loop [11] (fun i => ∃ k : Nat, k ≤ zs.length ∧ i = .int .i64 k ∧ Hid (allB (zs.drop k) a b = allB zs a b)) (fun i => zs.length - (intOf i).toNat)
  case atStart => exact ⟨0, Nat.zero_le _, rfl, by rfl⟩
  case round =>
    obtain ⟨k, hk, rfl, H⟩ := hrel
    by_cases hlt : k < zs.length
    · obtain rfl := had (by omega)
      obtain ⟨x, hck, HX⟩ : ∃ x, w.cell? ⟨bl, off + k, none⟩ = some (.int .i64 x) ∧ Hid (zs.drop k = x :: zs.drop (k + 1)) := ⟨_, HC.out k hlt, by rw [getD_lt hlt]; exact drop_get zs k hlt⟩
      go_wp2_with (go_at_call 49; refine (within_any _ _ _ _).mono ?_; rintro e w' ⟨rfl, rfl⟩)
      · go_ret
        have hx : inB x a b = false := by simpa using ‹(!inB x a b) = true›
        exact ⟨ret_bool (by rw [← H.out, HX.out, allB_cons, hx]; rfl), rfl⟩
      · have hx : inB x a b = true := by simpa using ‹(!inB x a b) = false›
        exact ⟨⟨k + 1, by omega, by go_num, by show _ = _; rw [← H.out, HX.out, allB_cons, hx]; rfl⟩, by simp [intOf]; omega⟩
    · go_wp2
      go_ret
      obtain rfl : k = zs.length := by omega
      exact ⟨ret_bool (by rw [← H.out, List.drop_length]; rfl), rfl⟩
end Go.Proofs.Ytfedhjfijcnpdaa
