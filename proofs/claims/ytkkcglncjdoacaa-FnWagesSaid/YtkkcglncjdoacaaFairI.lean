/- The walks of FairnessOf: the difference of the greatest and the least share. -/
import Derived.Test.YtkkcglncjdoacaaStrict
import Derived.Test.YtkkcglncjdoacaaInts
namespace Go.Proofs.Ytkkcglncjdoacaa
open Go.ChangeShapes Go.WideShapes Go.ChangeAt Go.RowKit Go.Joins
set_option linter.unusedSimpArgs false
set_option linter.unusedVariables false

def hiF (zs : List Int) (a : Int) : Int := zs.foldl max a
def loF (zs : List Int) (a : Int) : Int := zs.foldl min a
theorem hiF_cons (x : Int) (r : List Int) (a : Int) : hiF (x :: r) a = hiF r (max a x) := rfl
theorem loF_cons (x : Int) (r : List Int) (a : Int) : loF (x :: r) a = loF r (min a x) := rfl
def fairB (zs : List Int) : Bool := decide (0 < zs.length) && allB zs 0 1000000
def fairnessOf (zs : List Int) : Int := if fairB zs = true then hiF zs (zs.getD 0 0) - loF zs (zs.getD 0 0) else -1
theorem fairB_no {zs : List Int} (h : allB zs 0 1000000 = false) : fairnessOf zs = -1 := if_neg (by simp [fairB, h])
theorem fairB_yes {zs : List Int} (h0 : 0 < zs.length) (h : allB zs 0 1000000 = true) : fairnessOf zs = hiF zs (zs.getD 0 0) - loF zs (zs.getD 0 0) := if_pos (by simp [fairB, h, h0])
theorem implFairnessOf_any (zs : List Int) (v : Value) (w : World) (h : RdI w v zs) : Calls Try.prog 13 #[v] w fun e w' => e = .returned (.int .i64 (fairnessOf zs)) ∧ Dr w w' := by
  have HR := Lib.hid h
  obtain ⟨ad, cap, bl, off, hv, hcap, hmax, had, hc⟩ := h.open
  subst hv
  have HC := Lib.hid hc
  clear h hc
  by_cases hg : fairB zs = true
  · obtain ⟨h0, hall⟩ : 0 < zs.length ∧ allB zs 0 1000000 = true := by simpa [fairB] using hg
    have HM := Lib.hid (allB_mem hall)
    rw [fairB_yes h0 hall]
    clear hg
    obtain rfl := had h0
    obtain ⟨z, hcz, hz1, HZ⟩ : ∃ z, w.cell? ⟨bl, off, none⟩ = some (.int .i64 z) ∧ (0 ≤ z ∧ z ≤ 1000000) ∧ Hid (z = zs.getD 0 0) := ⟨_, HC.out 0 h0, HM.out _ (by rw [getD_lt h0]; exact List.getElem_mem h0), rfl⟩
    obtain ⟨z0, z1⟩ := hz1
    rw [← HZ.out]
    have q1 : (0 : Int) < (zs.length : Int) := by omega
    have q2 : ((zs.length : Int) == 0) = false := beq_eq_false_iff_ne.2 (by omega)
    go_enter Try.func13, Try.ntmps13
    go_wp2_with (go_at_call 25; refine (allWithin_any zs _ _ _ _ HR.out).mono ?_; rintro e w' ⟨rfl, rfl⟩)
    go_quiet (fail)
    go_wp2
    go_loopw [3, 4, 23] (fun b c i wr => ∃ (k : Nat) (q r : Int), k ≤ zs.length ∧ i = .int .i64 k ∧ b = .int .i64 q ∧ c = .int .i64 r ∧ Dr w wr ∧ 0 ≤ q ∧ q ≤ 1000000 ∧ 0 ≤ r ∧ r ≤ 1000000 ∧ Hid (hiF (zs.drop k) r = hiF zs z ∧ loF (zs.drop k) q = loF zs z)) (fun _ _ i _ => zs.length - (intOf i).toNat)
    case atStart => exact ⟨0, z, z, by omega, rfl, rfl, rfl, (Dr.refl _).next _, z0, z1, z0, z1, rfl, rfl⟩
    case round =>
      obtain ⟨k, q, r, hk, rfl, rfl, rfl, hD, q0, q1, r0, r1, H⟩ := hrel
      by_cases hlt : k < zs.length
      · obtain ⟨x, hck, hx, HX⟩ : ∃ x, wr.cell? ⟨bl, off + k, none⟩ = some (.int .i64 x) ∧ (0 ≤ x ∧ x ≤ 1000000) ∧ Hid (zs.drop k = x :: zs.drop (k + 1)) := ⟨_, hD.cell (HC.out k hlt), HM.out _ (by rw [getD_lt hlt]; exact List.getElem_mem hlt), drop_one hlt⟩
        obtain ⟨x0, x1⟩ := hx
        go_wp2
        refine ⟨⟨k + 1, _, _, by omega, by go_num, rfl, rfl, hD, ?_, ?_, ?_, ?_, ?_⟩, by simp [intOf]; omega⟩
        · (try simp only [ite_max, ite_min, ite_max', ite_min']); omega
        · (try simp only [ite_max, ite_min, ite_max', ite_min']); omega
        · (try simp only [ite_max, ite_min, ite_max', ite_min']); omega
        · (try simp only [ite_max, ite_min, ite_max', ite_min']); omega
        · show _ ∧ _
          (try simp only [ite_max, ite_min, ite_max', ite_min'])
          obtain ⟨H2, H3⟩ := H.out
          rw [HX.out] at H2 H3
          exact ⟨H2, H3⟩
      · go_wp2
        go_ret
        obtain rfl : k = zs.length := by omega
        obtain ⟨H2, H3⟩ := H.out
        rw [List.drop_length] at H2 H3
        exact ⟨ret_int (by rw [← H2, ← H3]; rfl), hD⟩
  · have hp : fairnessOf zs = -1 := if_neg hg
    rw [hp]
    clear hp
    have hg' : ¬ (0 < zs.length ∧ allB zs 0 1000000 = true) := by simpa [fairB] using hg
    clear hg
    go_enter Try.func13, Try.ntmps13
    go_wp2_with (go_at_call 25; refine (allWithin_any zs _ _ _ _ HR.out).mono ?_; rintro e w' ⟨rfl, rfl⟩)
    all_goals first | (go_ret; exact ⟨rfl, Dr.refl _⟩) | (exfalso; simp_all; done) | (exfalso; simp_all; omega)
end Go.Proofs.Ytkkcglncjdoacaa
