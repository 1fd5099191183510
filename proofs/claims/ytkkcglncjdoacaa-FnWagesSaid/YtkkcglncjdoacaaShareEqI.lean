/- The walks of ShareEqually: equal shares. -/
import Derived.Test.YtkkcglncjdoacaaApp
import Derived.Test.YtkkcglncjdoacaaInts
namespace Go.Proofs.Ytkkcglncjdoacaa
open Go.ChangeShapes Go.WideShapes Go.ChangeAt Go.RowKit Go.Joins
set_option linter.unusedSimpArgs false
set_option linter.unusedVariables false

/-- The k-th share of s in n. -/
def shareAt (s n : Int) (k : Nat) : Int := if (k : Int) < s % n then s / n + 1 else s / n
def shares (s n : Int) (k : Nat) : List Int := (List.range k).map (shareAt s n)
theorem shares_succ (s n : Int) (k : Nat) : shares s n (k + 1) = shares s n k ++ [shareAt s n k] := by simp [shares, List.range_succ]
theorem shares_length (s n : Int) (k : Nat) : (shares s n k).length = k := by simp [shares]
def shareEqB (s n : Int) : Bool := inB s 0 1000000 && inB n 1 20
def shareEqually (s n : Int) : List Int := if shareEqB s n = true then shares s n n.toNat else []
theorem shareEqually_length (s n : Int) : (shareEqually s n).length ≤ 20 := by
  unfold shareEqually
  split
  · rename_i h
    simp only [shareEqB, Bool.and_eq_true] at h
    have := inB_true.1 h.2
    rw [shares_length]
    omega
  · simp
theorem implShareEqually_any (s n : Int) (w : World) :
    Calls Try.prog 9 #[.int .i64 s, .int .i64 n] w fun e w' => ∃ u, e = .returned u ∧ OwI w' w.heap.size u (shareEqually s n) ∧ Below w.heap.size w w' := by
  have hB0 := below_alloc1 w (.cells #[] 3)
  have HE := Lib.hid (OwI.empty w w.heap.size (Nat.le_refl _))
  by_cases hg : shareEqB s n = true
  · have hp : shareEqually s n = shares s n n.toNat := if_pos hg
    rw [hp]
    clear hp
    obtain ⟨h1, h2⟩ : inB s 0 1000000 = true ∧ inB n 1 20 = true := by simpa [shareEqB] using hg
    obtain ⟨b1, b2⟩ := inB_true.1 h1
    obtain ⟨b3, b4⟩ := inB_true.1 h2
    have d0 : 0 ≤ s / n := Int.ediv_nonneg b1 (by omega)
    have d1 : s / n ≤ 1000000 := Int.le_trans (Int.ediv_le_self _ b1) b2
    clear hg
    go_enter Try.func9, Try.ntmps9
    go_wp2_with (go_at_call 24; refine (within_any _ _ _ _).mono ?_; rintro e w' ⟨rfl, rfl⟩)
    go_loopw [5, 18] (fun v i wr => ∃ k : Nat, (k : Int) ≤ n ∧ i = .int .i64 k ∧ OwI wr w.heap.size v (shares s n k) ∧ Below w.heap.size w wr) (fun _ i _ => (n - intOf i).toNat)
    case atStart => exact ⟨0, by omega, rfl, HE.out, hB0⟩
    case round =>
      obtain ⟨k, hk, rfl, ho, hB⟩ := hrel
      by_cases hlt : (k : Int) < n
      · by_cases hm : (k : Int) < s % n
        · have hs : shareAt s n k = s / n + 1 := if_pos hm
          have HS := Lib.hid hs
          clear hs
          go_wp2_with (at_builtin; refine wpList_pushI rfl (.tmp 31) (.tmp 33) rfl _ _ w.heap.size _ _ rfl ho rfl (by rw [shares_length]; omega) hB.size ?_; intro v1 w1 o1 hgr _; have hB2 := ho.grown_below hB (Nat.le_refl _) hgr; clear hgr)
          exact ⟨⟨k + 1, by omega, by go_num, by rw [shares_succ, HS.out]; exact o1, hB2⟩, by simp [intOf]; omega⟩
        · have hs : shareAt s n k = s / n := if_neg hm
          have HS := Lib.hid hs
          clear hs
          go_wp2_with (at_builtin; refine wpList_pushI rfl (.tmp 31) (.tmp 33) rfl _ _ w.heap.size _ _ rfl ho rfl (by rw [shares_length]; omega) hB.size ?_; intro v1 w1 o1 hgr _; have hB2 := ho.grown_below hB (Nat.le_refl _) hgr; clear hgr)
          exact ⟨⟨k + 1, by omega, by go_num, by rw [shares_succ, HS.out]; exact o1, hB2⟩, by simp [intOf]; omega⟩
      · go_wp2
        go_ret
        exact ⟨_, rfl, by rw [show n.toNat = k by omega]; exact ho, hB⟩
  · have hp : shareEqually s n = [] := if_neg hg
    rw [hp]
    clear hp
    have hg' : ¬ (inB s 0 1000000 = true ∧ inB n 1 20 = true) := by simpa [shareEqB] using hg
    clear hg
    go_enter Try.func9, Try.ntmps9
    go_wp2_with (go_at_call 24; refine (within_any _ _ _ _).mono ?_; rintro e w' ⟨rfl, rfl⟩)
    all_goals first | (exfalso; simp_all; done) | (go_ret; first | exact ⟨_, rfl, HE.out, hB0⟩ | exact ⟨_, rfl, OwI.nil _ _, Below.refl _ _⟩)
end Go.Proofs.Ytkkcglncjdoacaa
