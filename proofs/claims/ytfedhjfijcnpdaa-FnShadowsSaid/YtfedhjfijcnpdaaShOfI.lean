/- The walks of ShadowOf: the shadow of a pose. -/
import Derived.Test.YtfedhjfijcnpdaaApp
import Derived.Test.YtfedhjfijcnpdaaInts
import Derived.Test.YtfedhjfijcnpdaaStrict
namespace Go.Proofs.Ytfedhjfijcnpdaa
open Go.ChangeShapes Go.WideShapes Go.ChangeAt Go.RowKit Go.Joins
set_option linter.unusedSimpArgs false
set_option linter.unusedVariables false

theorem floor_eq (a b : Int) (hb : 0 < b) : (if a.tmod b < 0 then a.tdiv b - 1 else a.tdiv b) = a / b := by
  rw [Int.tdiv_eq_ediv, Int.tmod_eq_emod]
  have h1 := Int.emod_nonneg a (show b ≠ 0 by omega)
  have h2 := Int.emod_lt_of_pos a hb
  have hs : b.sign = 1 := Int.sign_eq_one_of_pos hb
  rw [hs]
  by_cases hd : 0 ≤ a ∨ b ∣ a
  · rw [if_pos hd, if_pos hd]
    rw [if_neg (by omega)]
    omega
  · rw [if_neg hd, if_neg hd, if_pos (by omega)]
    omega
theorem quo_bd (a b : Int) (ha : -4000000 ≤ a ∧ a ≤ 4000000) (hb : 0 < b) : -4000000 ≤ a.tdiv b ∧ a.tdiv b ≤ 4000000 := by
  have h := Int.natAbs_tdiv_le_natAbs a b
  omega
theorem floor_bd (a b : Int) (ha : -4000000 ≤ a ∧ a ≤ 4000000) (hb : 0 < b) : -4000001 ≤ a / b ∧ a / b ≤ 4000000 := by
  have h := quo_bd a b ha hb
  rw [← floor_eq a b hb]
  split <;> omega
theorem prod_bd (u s : Int) (h1 : -4000 ≤ u) (h2 : u ≤ 4000) (h3 : 1 ≤ s) (h4 : s ≤ 1000) : -4000000 ≤ u * s ∧ u * s ≤ 4000000 := by
  have a1 := Int.mul_le_mul_of_nonneg_right h2 (show 0 ≤ s by omega)
  have a2 := Int.mul_le_mul_of_nonneg_right h1 (show 0 ≤ s by omega)
  omega
theorem implFloor_any (a b : Int) (ha : -4000000 ≤ a ∧ a ≤ 4000000) (hb : 0 < b) (w : World) : Calls Try.prog 52 #[.int .i64 a, .int .i64 b] w fun e w' => e = .returned (.int .i64 (a / b)) ∧ w = w' := by
  have HF := Lib.hid (floor_eq a b hb)
  obtain ⟨c1, c2⟩ := quo_bd a b ha hb
  go_enter Try.func52, Try.ntmps52
  go_wp2
  · go_ret
    exact ⟨ret_int (by rw [← HF.out, if_pos ‹_›]), rfl⟩
  · go_ret
    exact ⟨ret_int (by rw [← HF.out, if_neg (by omega)]), rfl⟩

def shadowAt (l p s x : Int) : Int := l + (x - l) * s / p
def shadowOk (l p s : Int) : Bool := inB l (-2000) 2000 && inB s 1 1000 && inB p 1 s
def shadowOf (zs : List Int) (l p s : Int) : List Int := if zs.length ≤ 12 ∧ shadowOk l p s = true ∧ allB zs (-2000) 2000 = true then zs.map (shadowAt l p s) else []
theorem shadowOf_length (zs : List Int) (l p s : Int) : (shadowOf zs l p s).length ≤ 12 := by
  unfold shadowOf
  split
  · rename_i h; simpa using h.1
  · simp
theorem shadowOk_bd {l p s : Int} (h : shadowOk l p s = true) : inB l (-2000) 2000 = true ∧ inB s 1 1000 = true ∧ inB p 1 s = true := by
  simp only [shadowOk, Bool.and_eq_true] at h
  exact ⟨h.1.1, h.1.2, h.2⟩
theorem implShadowOf_any (zs : List Int) (l p s : Int) (v : Value) (w : World) (h : RdI w v zs) :
    Calls Try.prog 24 #[v, .int .i64 l, .int .i64 p, .int .i64 s] w fun e w' => ∃ u, e = .returned u ∧ OwI w' w.heap.size u (shadowOf zs l p s) ∧ Below w.heap.size w w' := by
  have HR := Lib.hid h
  obtain ⟨ad, cap, bl, off, hv, hcap, hmax, had, hc⟩ := h.open
  subst hv
  have HC := Lib.hid hc
  clear h hc
  have hB0 := below_alloc1 w (.cells #[] 3)
  have HE := Lib.hid (OwI.empty w w.heap.size (Nat.le_refl _))
  by_cases hg : zs.length ≤ 12 ∧ shadowOk l p s = true ∧ allB zs (-2000) 2000 = true
  · obtain ⟨hlen, hok, hal⟩ := hg
    obtain ⟨h1, h2, h3⟩ := shadowOk_bd hok
    obtain ⟨l1, l2⟩ := inB_true.1 h1
    obtain ⟨s1, s2⟩ := inB_true.1 h2
    obtain ⟨p1, p2⟩ := inB_true.1 h3
    have HOK := Lib.hid hok
    clear hok
    have HM := Lib.hid (allB_mem hal)
    go_enter Try.func24, Try.ntmps24
    go_wp2_with (first | (go_at_call 49; refine (within_any _ _ _ _).mono ?_; rintro e w' ⟨rfl, rfl⟩) | (go_at_call 51; refine (allWithin_any zs _ _ _ _ HR.out).mono ?_; rintro e w' ⟨rfl, rfl⟩))
    go_loopw [9, 39] (fun v i wr => ∃ k : Nat, k ≤ zs.length ∧ i = .int .i64 k ∧ OwI wr w.heap.size v ((zs.take k).map (shadowAt l p s)) ∧ Below w.heap.size w wr ∧ Hid (allB (zs.drop k) (-2000) 2000 = allB zs (-2000) 2000)) (fun _ i _ => zs.length - (intOf i).toNat)
    case atStart => exact ⟨0, by omega, rfl, HE.out, hB0, rfl⟩
    case round =>
      obtain ⟨k, hk, rfl, ho, hB, H⟩ := hrel
      by_cases hlt : k < zs.length
      · obtain rfl := had (by omega)
        obtain ⟨x, hck, HX⟩ : ∃ x, wr.cell? ⟨bl, off + k, none⟩ = some (.int .i64 x) ∧ Hid (zs.drop k = x :: zs.drop (k + 1) ∧ zs.take (k + 1) = zs.take k ++ [x] ∧ x ∈ zs) :=
          ⟨_, cell_on hB (HC.out k hlt), drop_one hlt, by rw [List.take_succ_eq_append_getElem hlt, getD_lt hlt], by rw [getD_lt hlt]; exact List.getElem_mem hlt⟩
        have hx : inB x (-2000) 2000 = true := inB_true.2 (HM.out x HX.out.2.2)
        obtain ⟨x0, x1⟩ := inB_true.1 hx
        have hpb := prod_bd (x - l) s (by omega) (by omega) s1 s2
        obtain ⟨m1, m2⟩ := hpb
        have hfb := floor_bd ((x - l) * s) p ⟨m1, m2⟩ (by omega)
        obtain ⟨f1, f2⟩ := hfb
        go_wp2_with (first | (go_at_call 49; refine (within_any _ _ _ _).mono ?_; rintro e w' ⟨rfl, rfl⟩) | (go_at_call 52; refine (implFloor_any _ _ ⟨by omega, by omega⟩ (by omega) _).mono ?_; rintro e w' ⟨rfl, rfl⟩) | (at_builtin; refine wpList_pushI rfl (.tmp 43) (.tmp 53) rfl _ _ w.heap.size _ _ rfl ho rfl (by rw [List.length_map, List.length_take]; omega) hB.size ?_; intro v1 w1 o1 hgr _; have hB2 := ho.grown_below hB (Nat.le_refl _) hgr; clear hgr))
        exact ⟨⟨k + 1, by omega, by go_num, by rw [HX.out.2.1, List.map_append]; exact o1, hB2, by show _ = _; rw [← H.out, HX.out.1, allB_cons, hx]; rfl⟩, by simp [intOf]; omega⟩
      · go_wp2
        go_ret
        obtain rfl : k = zs.length := by omega
        have hall : allB zs (-2000) 2000 = true := by rw [← H.out, List.drop_length]; rfl
        refine ⟨_, rfl, ?_, hB⟩
        rw [show shadowOf zs l p s = zs.map (shadowAt l p s) from if_pos ⟨hlen, HOK.out, hall⟩]
        rw [List.take_of_length_le (Nat.le_refl _)] at ho
        exact ho
  · have hp : shadowOf zs l p s = [] := if_neg (fun hh => hg hh)
    rw [hp]
    clear hp
    have hg' : ¬ (zs.length ≤ 12 ∧ inB l (-2000) 2000 = true ∧ inB s 1 1000 = true ∧ inB p 1 s = true ∧ allB zs (-2000) 2000 = true) := fun hh => hg ⟨hh.1, by simp [shadowOk, hh.2.1, hh.2.2.1, hh.2.2.2.1], hh.2.2.2.2⟩
    clear hg
    go_enter Try.func24, Try.ntmps24
    go_wp2_with (first | (go_at_call 49; refine (within_any _ _ _ _).mono ?_; rintro e w' ⟨rfl, rfl⟩) | (go_at_call 51; refine (allWithin_any zs _ _ _ _ HR.out).mono ?_; rintro e w' ⟨rfl, rfl⟩))
    all_goals first | (go_ret; first | exact ⟨_, rfl, HE.out, hB0⟩ | exact ⟨_, rfl, OwI.nil _ _, Below.refl _ _⟩) | (exfalso; simp_all; done) | (exfalso; simp_all; omega)
end Go.Proofs.Ytfedhjfijcnpdaa
