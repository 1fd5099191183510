/- The walks of isStrict and l11Rising: whether a list strictly rises within a range. -/
import Derived.Test.YtkkcglncjdoacaaDoorAll
namespace Go.Proofs.YtkkcglncjdoacaaDoor
open Go.ChangeShapes Go.WideShapes Go.ChangeAt Go.RowKit Go.Joins

/-- A list strictly rises. -/
def strictB : List Int → Bool
  | [] => true
  | [_] => true
  | x :: y :: r => decide (x < y) && strictB (y :: r)
theorem strictB_cons (x y : Int) (r : List Int) : strictB (x :: y :: r) = (decide (x < y) && strictB (y :: r)) := rfl
def risesB (zs : List Int) (a b : Int) : Bool := strictB zs && allB zs a b
theorem drop_two {zs : List Int} {k : Nat} (h0 : 0 < k) (h : k < zs.length) : zs.drop (k - 1) = zs.getD (k - 1) 0 :: zs.getD k 0 :: zs.drop (k + 1) := by
  obtain ⟨j, rfl⟩ : ∃ j, k = j + 1 := ⟨k - 1, by omega⟩
  have hj : j < zs.length := by omega
  rw [Nat.add_sub_cancel, drop_get zs j hj, drop_get zs (j + 1) h, getD_lt hj, getD_lt h]
theorem drop_one {zs : List Int} {k : Nat} (h : k < zs.length) : zs.drop k = zs.getD k 0 :: zs.drop (k + 1) := by rw [getD_lt h]; exact drop_get zs k h

theorem strict_last (zs : List Int) : strictB (zs.drop (zs.length - 1)) = true := by
  rcases Nat.eq_zero_or_pos zs.length with h0 | h0
  · rw [List.drop_of_length_le (by omega)]; rfl
  · rw [drop_one (by omega), show zs.length - 1 + 1 = zs.length by omega, List.drop_length]; rfl

theorem isStrict_any (zs : List Int) (a b : Int) (v : Value) (w : World) (h : RdI w v zs) : Calls Tryd.prog 46 #[v, .int .i64 a, .int .i64 b] w fun e w' => e = .returned (.bool (risesB zs a b)) ∧ Dr w w' := by
  have HRD := Lib.hid h
  obtain ⟨ad, cap, bl, off, hv, hcap, hmax, had, hc⟩ := h.open
  subst hv
  have HC := Lib.hid hc
  clear h hc
  go_enter Tryd.func46, Tryd.ntmps46
  go_wp2
  go_loopw [10] (fun i wr => ∃ k : Nat, k ≤ zs.length ∧ i = .int .i64 k ∧ Dr w wr ∧ Hid (strictB (zs.drop (k - 1)) = strictB zs)) (fun i _ => zs.length - (intOf i).toNat)
  case atStart => exact ⟨0, Nat.zero_le _, rfl, Dr.refl _, by rfl⟩
  case round =>
    obtain ⟨k, hk, rfl, hD, H⟩ := hrel
    by_cases hlt : k < zs.length
    · obtain rfl := had (by omega)
      by_cases hk0 : 0 < k
      · obtain ⟨x, y, hck, hcl, HX⟩ : ∃ x y, wr.cell? ⟨bl, off + k, none⟩ = some (.int .i64 x) ∧ wr.cell? ⟨bl, off + (k - 1), none⟩ = some (.int .i64 y) ∧ Hid (zs.drop (k - 1) = y :: x :: zs.drop (k + 1) ∧ zs.drop k = x :: zs.drop (k + 1)) :=
          ⟨_, _, hD.cell (HC.out k hlt), hD.cell (HC.out (k - 1) (by omega)), drop_two hk0 hlt, drop_one hlt⟩
        have q1 : (k : Int) < (zs.length : Int) := by omega
        have q2 : IntKind.i64.wrap ((k : Int) - 1) = (k : Int) - 1 := IntWalk.i64_in _ (by omega)
        have q3 : (1 : Int) ≤ (k : Int) := by omega
        have q4 : (k : Int) - 1 < (zs.length : Int) := by omega
        have q5 : ((k : Int) - 1).toNat = k - 1 := by omega
        have q6 : 1 ≤ k := hk0
        go_wp2
        go_quiet (fail)
        clear q1 q2 q3 q4 q5 q6
        go_wp2
        · go_ret
          have hle : x ≤ y := by assumption
          exact ⟨ret_bool (by rw [risesB, ← H.out, HX.out.1, strictB_cons, decide_eq_false (by omega)]; rfl), hD.next _⟩
        · have hgt : y < x := by first | assumption | omega
          exact ⟨⟨k + 1, by omega, by go_num, hD.next _, by show _ = _; rw [← H.out, HX.out.1, strictB_cons, decide_eq_true hgt, Nat.add_sub_cancel, HX.out.2]; rfl⟩, by simp [intOf]; omega⟩
      · obtain rfl : k = 0 := by omega
        have q0 : decide (0 < (0 : Int)) = false := rfl
        go_wp2
        go_quiet (fail)
        go_wp2
        exact ⟨⟨1, by omega, by go_num, hD.next _, H⟩, by simp [intOf]; omega⟩
    · go_wp2_with (go_at_call 60; refine (allWithin_any zs _ _ _ _ (HRD.out.dr hD)).mono ?_; rintro e w' ⟨rfl, rfl⟩)
      go_ret
      obtain rfl : k = zs.length := by omega
      have hs := strict_last zs
      exact ⟨ret_bool (by rw [risesB, ← H.out, hs]; rfl), hD⟩
theorem l11Rising_any (zs : List Int) (b : Int) (v : Value) (w : World) (h : RdI w v zs) : Calls Tryd.prog 44 #[v, .int .i64 b] w fun e w' => e = .returned (.bool (risesB zs 0 b)) ∧ Dr w w' := by
  obtain ⟨ad, cap, bl, off, hv, hcap, hmax, had, hc⟩ := h.open
  subst hv
  have HC := Lib.hid hc
  clear h hc
  go_enter Tryd.func44, Tryd.ntmps44
  go_wp2
  go_loopw [5] (fun i wr => ∃ k : Nat, k ≤ zs.length ∧ i = .int .i64 k ∧ Dr w wr ∧ Hid ((strictB (zs.drop (k - 1)) && allB (zs.drop k) 0 b) = risesB zs 0 b)) (fun i _ => zs.length - (intOf i).toNat)
  case atStart => exact ⟨0, Nat.zero_le _, rfl, Dr.refl _, by rfl⟩
  case round =>
    obtain ⟨k, hk, rfl, hD, H⟩ := hrel
    by_cases hlt : k < zs.length
    · obtain rfl := had (by omega)
      have q1 : (k : Int) < (zs.length : Int) := by omega
      by_cases hk0 : 0 < k
      · obtain ⟨x, y, hck, hcl, HX⟩ : ∃ x y, wr.cell? ⟨bl, off + k, none⟩ = some (.int .i64 x) ∧ wr.cell? ⟨bl, off + (k - 1), none⟩ = some (.int .i64 y) ∧ Hid (zs.drop (k - 1) = y :: x :: zs.drop (k + 1) ∧ zs.drop k = x :: zs.drop (k + 1)) :=
          ⟨_, _, hD.cell (HC.out k hlt), hD.cell (HC.out (k - 1) (by omega)), drop_two hk0 hlt, drop_one hlt⟩
        have q2 : IntKind.i64.wrap ((k : Int) - 1) = (k : Int) - 1 := IntWalk.i64_in _ (by omega)
        have q3 : (1 : Int) ≤ (k : Int) := by omega
        have q4 : (k : Int) - 1 < (zs.length : Int) := by omega
        have q5 : ((k : Int) - 1).toNat = k - 1 := by omega
        have q6 : 1 ≤ k := hk0
        by_cases hx : inB x 0 b = true
        · go_wp2
          go_quiet ((go_at_call 43; exact Calls.quiet_of_same (same_symm (l01In_any _ _ _ _))))
          clear q1 q2 q3 q4 q5 q6
          go_wp2
          · go_ret
            have hle : x ≤ y := by assumption
            exact ⟨ret_bool (by rw [← H.out, HX.out.1, strictB_cons, decide_eq_false (by omega)]; rfl), hD.next _⟩
          · have hgt : y < x := by first | assumption | omega
            exact ⟨⟨k + 1, by omega, by go_num, hD.next _, by show _ = _; rw [← H.out, HX.out.1, strictB_cons, decide_eq_true hgt, Nat.add_sub_cancel, HX.out.2, allB_cons, hx]; simp⟩, by simp [intOf]; omega⟩
        · have hx' : inB x 0 b = false := by simpa using hx
          go_wp2
          go_quiet ((go_at_call 43; exact Calls.quiet_of_same (same_symm (l01In_any _ _ _ _))))
          clear q1 q2 q3 q4 q5 q6
          go_wp2
          go_ret
          exact ⟨ret_bool (by rw [← H.out, HX.out.2, allB_cons, hx']; simp), hD.next _⟩
      · obtain rfl : k = 0 := by omega
        obtain ⟨x, hck, HX⟩ : ∃ x, wr.cell? ⟨bl, off, none⟩ = some (.int .i64 x) ∧ Hid (zs.drop 0 = x :: zs.drop (0 + 1)) :=
          ⟨_, hD.cell (HC.out 0 hlt), drop_one hlt⟩
        have q0 : decide (0 < (0 : Int)) = false := rfl
        by_cases hx : inB x 0 b = true
        · go_wp2
          go_quiet ((go_at_call 43; exact Calls.quiet_of_same (same_symm (l01In_any _ _ _ _))))
          go_wp2
          exact ⟨⟨1, by omega, by go_num, hD.next _, by show _ = _; rw [← H.out, HX.out, allB_cons, hx]; rfl⟩, by simp [intOf]; omega⟩
        · have hx' : inB x 0 b = false := by simpa using hx
          go_wp2
          go_quiet ((go_at_call 43; exact Calls.quiet_of_same (same_symm (l01In_any _ _ _ _))))
          go_wp2
          go_ret
          exact ⟨ret_bool (by rw [← H.out, HX.out, allB_cons, hx']; simp), hD.next _⟩
    · go_wp2
      go_ret
      obtain rfl : k = zs.length := by omega
      have hs := strict_last zs
      exact ⟨ret_bool (by rw [← H.out, hs, List.drop_length]; rfl), hD⟩
end Go.Proofs.YtkkcglncjdoacaaDoor
