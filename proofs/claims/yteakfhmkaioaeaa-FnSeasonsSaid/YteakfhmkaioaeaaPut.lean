/- The walk of put: a number is put into an ascending list. -/
import Derived.Test.YteakfhmkaioaeaaApp
import Derived.Test.YteakfhmkaioaeaaStrict
namespace Go.Proofs.Yteakfhmkaioaeaa
open Go.ChangeShapes Go.WideShapes Go.ChangeAt Go.RowKit Go.Joins
set_option linter.unusedSimpArgs false
set_option linter.unusedVariables false

/-- n ahead of the first element that is not less. -/
def putF (n : Int) : List Int → List Int
  | [] => [n]
  | x :: r => if n ≤ x then n :: x :: r else x :: putF n r
theorem putF_le {n x : Int} (r : List Int) (h : n ≤ x) : putF n (x :: r) = n :: x :: r := if_pos h
theorem putF_gt {n x : Int} (r : List Int) (h : ¬ n ≤ x) : putF n (x :: r) = x :: putF n r := if_neg h
theorem putF_length (n : Int) (zs : List Int) : (putF n zs).length = zs.length + 1 := by
  induction zs with
  | nil => rfl
  | cons x r ih => unfold putF; split <;> simp [ih]
/-- What is still to come at place k. -/
def putRest (n : Int) (d : Bool) (zs : List Int) : List Int := if d = true then zs else putF n zs

theorem put_any (zs : List Int) (n : Int) (hn : zs.length ≤ 1048577) (v : Value) (w : World) (h : RdI w v zs) :
    Calls Try.prog 54 #[v, .int .i64 n] w fun e w' => ∃ u, e = .returned u ∧ OwI w' w.heap.size u (putF n zs) ∧ Below w.heap.size w w' := by
  obtain ⟨ad, cap, bl, off, hv, hcap, hmax, had, hc⟩ := h.open
  subst hv
  have HC := Lib.hid hc
  clear h hc
  have hB0 := below_alloc1 w (.cells #[] 3)
  have HE := Lib.hid (OwI.empty w w.heap.size (Nat.le_refl _))
  go_enter Try.func54, Try.ntmps54
  go_wp2
  go_loopw [5, 6, 12] (fun v b i wr => ∃ (k : Nat) (d : Bool) (A : List Int), k ≤ zs.length ∧ i = .int .i64 k ∧ b = .bool d ∧ OwI wr w.heap.size v A ∧ A.length ≤ k + d.toNat ∧ Below w.heap.size w wr ∧ Hid (A ++ putRest n d (zs.drop k) = putF n zs)) (fun _ _ i _ => zs.length - (intOf i).toNat)
  case atStart => exact ⟨0, false, [], by omega, rfl, rfl, HE.out, by simp, hB0, rfl⟩
  case round =>
    obtain ⟨k, d, A, hk, rfl, rfl, ho, hA, hB, H⟩ := hrel
    by_cases hlt : k < zs.length
    · obtain rfl := had (by omega)
      obtain ⟨x, hck, HX⟩ : ∃ x, wr.cell? ⟨bl, off + k, none⟩ = some (.int .i64 x) ∧ Hid (zs.drop k = x :: zs.drop (k + 1)) := ⟨_, cell_on hB (HC.out k hlt), drop_one hlt⟩
      cases d with
      | true =>
        simp only [Bool.toNat_true] at hA
        go_wp2_with (at_builtin; refine wpList_pushI rfl (.tmp 27) (.tmp 29) rfl _ _ w.heap.size _ _ rfl ho rfl (by omega) hB.size ?_; intro v1 w1 o1 hgr _; have hB2 := ho.grown_below hB (Nat.le_refl _) hgr; clear hgr)
        exact ⟨⟨k + 1, true, A ++ [x], by omega, by go_num, rfl, o1, by simp; omega, hB2, by show _ = _; rw [← H.out, HX.out]; simp [putRest]⟩, by simp [intOf]; omega⟩
      | false =>
        simp only [Bool.toNat_false] at hA
        by_cases hx : n ≤ x
        · go_wp2_with (first
            | (at_builtin; refine wpList_pushI rfl (.tmp 23) (.tmp 25) rfl _ _ w.heap.size _ _ rfl ho rfl (by omega) hB.size ?_; intro v1 w1 o1 hgr _; have hB1 := ho.grown_below hB (Nat.le_refl _) hgr; clear hgr)
            | (at_builtin; refine wpList_pushI rfl (.tmp 27) (.tmp 29) rfl _ _ w.heap.size _ _ rfl o1 rfl (by simp; omega) hB1.size ?_; intro v2 w2 o2 hgr _; have hB2 := o1.grown_below hB1 (Nat.le_refl _) hgr; clear hgr))
          exact ⟨⟨k + 1, true, A ++ [n] ++ [x], by omega, by go_num, rfl, o2, by simp; omega, hB2, by show _ = _; rw [← H.out, HX.out]; simp [putRest, putF_le _ hx]⟩, by simp [intOf]; omega⟩
        · go_wp2_with (at_builtin; refine wpList_pushI rfl (.tmp 27) (.tmp 29) rfl _ _ w.heap.size _ _ rfl ho rfl (by omega) hB.size ?_; intro v1 w1 o1 hgr _; have hB2 := ho.grown_below hB (Nat.le_refl _) hgr; clear hgr)
          exact ⟨⟨k + 1, false, A ++ [x], by omega, by go_num, rfl, o1, by simp; omega, hB2, by show _ = _; rw [← H.out, HX.out]; simp [putRest, putF_gt _ hx]⟩, by simp [intOf]; omega⟩
    · obtain rfl : k = zs.length := by omega
      cases d with
      | true =>
        go_wp2
        go_ret
        have e : A = putF n zs := by rw [← H.out, List.drop_length]; simp [putRest]
        exact ⟨_, rfl, by rw [← e]; exact ho, hB⟩
      | false =>
        simp only [Bool.toNat_false] at hA
        go_wp2_with (at_builtin; refine wpList_pushI rfl (.tmp 34) (.tmp 36) rfl _ _ w.heap.size _ _ rfl ho rfl (by omega) hB.size ?_; intro v1 w1 o1 hgr _; have hB2 := ho.grown_below hB (Nat.le_refl _) hgr; clear hgr)
        go_ret
        have e : A ++ [n] = putF n zs := by rw [← H.out, List.drop_length]; simp [putRest, putF]
        exact ⟨_, rfl, by rw [← e]; exact o1, hB2⟩
end Go.Proofs.Yteakfhmkaioaeaa
