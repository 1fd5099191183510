/- The laws' own helpers has and btoi; facts on draws. -/
import Derived.Test.YteakfhmkaioaeaaDraw
import Derived.Test.YteakfhmkaioaeaaStrict
namespace Go.Proofs.Yteakfhmkaioaeaa
open Go.ChangeShapes Go.WideShapes Go.ChangeAt Go.RowKit Go.Joins
set_option linter.unusedSimpArgs false
set_option linter.unusedVariables false
theorem below_drewN {B : Nat} {a w : World} (h : Below B a w) (n : Nat) : Below B a (w.drewN n) := ⟨h.os, h.tape, h.output, h.size, h.block⟩
theorem inB_of {a b c : Int} (h1 : b ≤ a) (h2 : a ≤ c) : inB a b c = true := inB_true.2 ⟨h1, h2⟩
theorem has_any (zs : List Int) (q : Int) (v : Value) (w : World) (h : RdI w v zs) : Calls Try.prog 44 #[v, .int .i64 q] w fun e w' => e = .returned (.bool (zs.any (· == q))) ∧ w = w' := by
  obtain ⟨ad, cap, bl, off, rfl, hcap, hmax, had, hc⟩ := h.open
  have HC := Lib.hid hc
  clear h hc
  go_enter Try.func44, Try.ntmps44
  go_wp2
  go_loop [5] (fun i => ∃ k : Nat, k ≤ zs.length ∧ i = .int .i64 k ∧ Hid ((zs.drop k).any (· == q) = zs.any (· == q))) (fun i => zs.length - (intOf i).toNat)
  case atStart => exact ⟨0, Nat.zero_le _, rfl, rfl⟩
  case round =>
    obtain ⟨k, hk, rfl, H⟩ := hrel
    by_cases hlt : k < zs.length
    · obtain rfl := had (by omega)
      obtain ⟨x, hck, HX⟩ : ∃ x, w.cell? ⟨bl, off + k, none⟩ = some (.int .i64 x) ∧ Hid (zs.drop k = x :: zs.drop (k + 1)) := ⟨_, HC.out k hlt, drop_one hlt⟩
      by_cases hx : x = q
      · subst hx
        go_wp2
        go_ret
        exact ⟨ret_bool (by rw [← H.out, HX.out]; simp), rfl⟩
      · have hxb : (x == q) = false := beq_eq_false_iff_ne.2 hx
        go_wp2
        exact ⟨⟨k + 1, by omega, by go_num, by show _ = _; rw [← H.out, HX.out, List.any_cons, hxb]; rfl⟩, by simp [intOf]; omega⟩
    · go_wp2
      go_ret
      obtain rfl : k = zs.length := by omega
      exact ⟨ret_bool (by rw [← H.out, List.drop_length]; rfl), rfl⟩

theorem btoi_any (b : Bool) (w : World) : Calls Try.prog 45 #[.bool b] w fun e w' => e = .returned (.int .i64 (if b = true then 1 else 0)) ∧ w = w' := by
  cases b with
  | true =>
    go_enter Try.func45, Try.ntmps45
    go_wp2
    go_ret
    exact ⟨rfl, rfl⟩
  | false =>
    go_enter Try.func45, Try.ntmps45
    go_wp2
    go_ret
    exact ⟨rfl, rfl⟩
theorem l01Once_any (B g : Nat) (n : Int) (hn : n ≤ 9223372036854775807) (w : World) (h : Cur w B g) :
    Calls Try.prog 59 #[.pointer (some ⟨g, 0, none⟩), .int .i64 n] w fun e w' => ∃ b : Bool, e = .returned (.bool b) ∧ Cur w' B g ∧ w.grownBy w' (curV g).ownBlock := by
  go_enter Try.func59, Try.ntmps59
  go_wp2_with (fail)
  refine (l01Below_any B g n hn _ h).mono ?_
  rintro e w1 ⟨x, rfl, x0, x1, x2, hc, hg⟩
  go_wp2_with (fail)
  go_ret
  exact ⟨_, rfl, hc, hg⟩
end Go.Proofs.Yteakfhmkaioaeaa
