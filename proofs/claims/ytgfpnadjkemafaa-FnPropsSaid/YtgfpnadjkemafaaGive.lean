/- The walks of GiveBack: a loan is taken out. -/
import Derived.Test.YtgfpnadjkemafaaLend
namespace Go.Proofs.Ytgfpnadjkemafaa
open Go.ChangeShapes Go.WideShapes Go.ChangeAt Go.RowKit Go.Joins
set_option linter.unusedSimpArgs false
set_option linter.unusedVariables false

def without (p : Int) (zs : List (Int × Int)) : List (Int × Int) := zs.filter fun x => x.1 != p
def giveOk (zs : List (Int × Int)) (p : Int) : Bool := loansB zs && hasLoan p zs
def giveF (zs : List (Int × Int)) (p : Int) : List (Int × Int) := if giveOk zs p = true then without p zs else zs
theorem without_length_le (p : Int) (zs : List (Int × Int)) : (without p zs).length ≤ zs.length := List.length_filter_le _ _
theorem giveF_length (zs : List (Int × Int)) (p : Int) : (giveF zs p).length ≤ zs.length := by
  unfold giveF
  split
  · exact without_length_le p zs
  · exact Nat.le_refl _
theorem without_id {p : Int} {zs : List (Int × Int)} (h : hasLoan p zs = false) : without p zs = zs := by
  refine List.filter_eq_self.2 fun x hx => ?_
  have h1 := List.any_eq_false.1 h x hx
  simpa [bne] using h1
theorem without_len {p : Int} {zs : List (Int × Int)} (h : hasLoan p zs = true) : (without p zs).length < zs.length := by
  obtain ⟨x, hx, he⟩ := List.any_eq_true.1 h
  refine List.length_filter_lt_length_iff_exists.2 ⟨x, hx, ?_⟩
  simpa [bne] using he
theorem loanOfF_split (p : Int) (zs : List (Int × Int)) : ∀ k : Int, hasLoan p zs = true → ∃ A x B, zs = A ++ x :: B ∧ x.1 = p ∧ hasLoan p A = false ∧ loanOfF p zs k = k + A.length := by
  induction zs with
  | nil => intro k h; simp [hasLoan] at h
  | cons x r ih =>
    intro k h
    by_cases hx : x.1 = p
    · exact ⟨[], x, r, rfl, hx, rfl, by simp [loanOfF, hx]⟩
    · have hb : (x.1 == p) = false := beq_eq_false_iff_ne.2 hx
      have hr : hasLoan p r = true := by simpa [hasLoan, hb] using h
      obtain ⟨A, y, B, h1, h2, h3, h4⟩ := ih (k + 1) hr
      refine ⟨x :: A, y, B, by rw [h1]; rfl, h2, by simpa [hasLoan, hb] using h3, ?_⟩
      simp only [loanOfF, hx, if_false, h4, List.length_cons]
      omega
theorem loansF_apart (zs : List (Int × Int)) : ∀ A : List (Int × Int), loansF A zs = true → ∀ x ∈ A, ∀ y ∈ zs, y.1 ≠ x.1 := by
  induction zs with
  | nil => intro A _ x _ y hy; simp at hy
  | cons z r ih =>
    intro A h x hx y hy
    simp only [loansF, Bool.and_eq_true, Bool.not_eq_true'] at h
    rcases List.mem_cons.1 hy with rfl | hy
    · intro he
      have h1 := List.any_eq_false.1 h.1.2 x hx
      exact h1 (by simp [he])
    · exact ih _ h.2 x (List.mem_append_left _ hx) y hy
theorem loansF_append (B : List (Int × Int)) : ∀ zs A : List (Int × Int), loansF A (zs ++ B) = true → loansF (A ++ zs) B = true := by
  intro zs
  induction zs with
  | nil => intro A h; simpa using h
  | cons z r ih =>
    intro A h
    simp only [List.cons_append, loansF, Bool.and_eq_true] at h
    have := ih _ h.2
    simpa using this
theorem without_split {p : Int} {A B : List (Int × Int)} {x : Int × Int} (h : loansF [] (A ++ x :: B) = true) (hx : x.1 = p) (hA : hasLoan p A = false) : without p (A ++ x :: B) = A ++ B := by
  have h1 : loansF (A ++ [x]) B = true := by
    have := loansF_append B (A ++ [x]) [] (by simpa using h)
    simpa using this
  have hB : hasLoan p B = false := by
    refine List.any_eq_false.2 fun y hy => ?_
    have := loansF_apart B _ h1 x (by simp) y hy
    rw [hx] at this
    simpa using this
  have hw := without_id hA
  have hw2 := without_id hB
  unfold without at hw hw2 ⊢
  rw [List.filter_append, hw, List.filter_cons_of_neg (by simp [hx]), hw2]
theorem loansB_F {zs : List (Int × Int)} (h : loansB zs = true) : loansF [] zs = true := by simp only [loansB, Bool.and_eq_true] at h; exact h.2
set_option maxHeartbeats 800000 in
theorem implGiveBack_any (zs : List (Int × Int)) (p : Int) (hn : zs.length ≤ 1048576) (v : Value) (w : World) (h : RdLoan w v zs) :
    Calls Try.prog 20 #[v, .int .i64 p] w fun e w' => ∃ u, e = .returned (.tuple #[u, .bool (giveOk zs p)]) ∧ OwLoan w' w.heap.size u (giveF zs p) ∧ Below w.heap.size w w' := by
  go_enter Try.func20, Try.ntmps20
  go_wp2_with (fail)
  refine (copyLoans_any zs hn _ _ h).mono ?_
  rintro e w1 ⟨u, rfl, o, hb⟩
  go_wp2_with (fail)
  refine (loanOf_any zs p _ _ (h.below hb)).mono ?_
  rintro e w2 ⟨rfl, hd⟩
  replace o := o.below hd
  replace hb := bvia hb hd
  clear hd
  go_wp2_with (fail)
  refine (implLoansOk_any zs _ _ (h.below hb)).mono ?_
  rintro e w3 ⟨rfl, hd⟩
  replace o := o.below hd
  replace hb := bvia hb hd
  clear hd
  by_cases h1 : loansB zs = true
  · by_cases h2 : hasLoan p zs = true
    · obtain ⟨A, x, B, hz, hx, hA, hl⟩ := loanOfF_split p zs 0 h2
      have hw : without p zs = A ++ B := by rw [hz]; exact without_split (by rw [← hz]; exact loansB_F h1) hx hA
      have hok : giveOk zs p = true := by simp [giveOk, h1, h2]
      have hp : giveF zs p = A ++ B := by rw [giveF, if_pos hok, hw]
      have HK := Lib.hid (And.intro hok hp)
      clear hok hp hw
      have ht : zs.take A.length = A := by rw [hz]; simp
      have hdr : zs.drop (A.length + 1) = B := by rw [hz]; simp
      have hle : A.length < zs.length := by rw [hz]; simp
      have HZ := Lib.hid (And.intro ht hdr)
      clear ht hdr hz hx hA
      rw [Int.zero_add] at hl
      rw [hl, h1]
      clear hl
      obtain ⟨hv0, hz0⟩ | ⟨g, cap, rfl, hg, hgw, hcap, hmax⟩ := o.slice
      · rw [hz0] at hle; exact absurd hle (Nat.not_lt_zero _)
      generalize A.length = k at hle HZ
      have q1 : (k : Int) ≤ (cap : Int) := by omega
      have q2 : k ≤ cap := by omega
      have q3 : IntKind.i64.wrap ((k : Int) + 1) = (k : Int) + 1 := IntWalk.i64_in _ (by omega)
      have q4 : (k : Int) + 1 ≤ (zs.length : Int) := by omega
      have q5 : ((k : Int) + 1).toNat = k + 1 := by omega
      have q6 : (zs.length : Int) ≤ (cap : Int) := by omega
      have q7 : (0 : Int) ≤ (k : Int) + 1 := by omega
      have HT : Hid (RdLoan w3 (.slice (if cap = k + 1 then some ⟨g, 0, none⟩ else some ⟨g, (k + 1) * 2, none⟩) (zs.length - (k + 1)) (cap - (k + 1))) (zs.drop (k + 1))) := by have := RdLoan.from (k := k + 1) o.rd (by omega); rw [Nat.zero_add] at this; exact this
      go_wp2_with (fail)
      refine wp_region_held_drew (S := (fun _ => True)) (by kernel_rfl) (by first | (dsimp only; done) | ((try dsimp only); skip)) (fun hHeld => ?_)
      refine takeI (i := 0) (oi := _) (v := _) (by simp only [List.getElem?_toArray, List.getElem?_cons_succ, List.getElem?_cons_zero]; exact rfl) ⟨by kernel_rfl, by kernel_rfl, by kernel_rfl, by exact fun _ _ _ h => h, Or.inl ⟨by rfl, by (intro w hSw; (try dsimp only at hSw); go_simp; (try with_reducible rfl))⟩, by assumption, ?_⟩
      try simp only [Act.put, List.setIfInBounds_toArray, List.set_cons_zero, List.set_cons_succ]
      refine takeI (i := 1) (oi := _) (v := _) (by simp only [List.getElem?_toArray, List.getElem?_cons_succ, List.getElem?_cons_zero]; exact rfl) ⟨by kernel_rfl, by kernel_rfl, by kernel_rfl, by exact fun _ _ _ h => h, Or.inl ⟨by rfl, by (intro w hSw; (try dsimp only at hSw); go_simp; (try with_reducible rfl))⟩, by assumption, ?_⟩
      try simp only [Act.put, List.setIfInBounds_toArray, List.set_cons_zero, List.set_cons_succ]
      refine takeI (i := 2) (oi := _) (v := _) (by simp only [List.getElem?_toArray, List.getElem?_cons_succ, List.getElem?_cons_zero]; exact rfl) ⟨by kernel_rfl, by kernel_rfl, by kernel_rfl, by exact fun _ _ _ h => h, Or.inl ⟨by rfl, by (intro w hSw; (try dsimp only at hSw); go_simp; (try with_reducible rfl))⟩, by assumption, ?_⟩
      try simp only [Act.put, List.setIfInBounds_toArray, List.set_cons_zero, List.set_cons_succ]
      refine takeI (i := 3) (oi := _) (v := _) (by simp only [List.getElem?_toArray, List.getElem?_cons_succ, List.getElem?_cons_zero]; exact rfl) ⟨by kernel_rfl, by kernel_rfl, by kernel_rfl, by exact fun _ _ _ h => h, Or.inl ⟨by rfl, by (intro w hSw; (try dsimp only at hSw); go_simp; (try with_reducible rfl))⟩, by assumption, ?_⟩
      try simp only [Act.put, List.setIfInBounds_toArray, List.set_cons_zero, List.set_cons_succ]
      refine takeI (i := 4) (oi := _) (v := _) (by simp only [List.getElem?_toArray, List.getElem?_cons_succ, List.getElem?_cons_zero]; exact rfl) ⟨by kernel_rfl, by kernel_rfl, by kernel_rfl, by exact fun _ _ _ h => h, Or.inl ⟨by rfl, by (intro w hSw; (try dsimp only at hSw); go_simp; (try with_reducible rfl))⟩, by assumption, ?_⟩
      try simp only [Act.put, List.setIfInBounds_toArray, List.set_cons_zero, List.set_cons_succ]
      refine takeI (i := 5) (oi := _) (v := _) (by simp only [List.getElem?_toArray, List.getElem?_cons_succ, List.getElem?_cons_zero]; exact rfl) ⟨by kernel_rfl, by kernel_rfl, by kernel_rfl, by exact fun _ _ _ h => h, Or.inl ⟨by rfl, by (intro w hSw; (try dsimp only at hSw); go_simp; (try with_reducible rfl))⟩, by assumption, ?_⟩
      try simp only [Act.put, List.setIfInBounds_toArray, List.set_cons_zero, List.set_cons_succ]
      refine takeI (i := 6) (oi := _) (v := _) (by simp only [List.getElem?_toArray, List.getElem?_cons_succ, List.getElem?_cons_zero]; exact rfl) ⟨by kernel_rfl, by kernel_rfl, by kernel_rfl, by exact fun _ _ _ h => h, Or.inl ⟨by rfl, by (intro w hSw; (try dsimp only at hSw); go_simp; (try with_reducible rfl))⟩, by assumption, ?_⟩
      try simp only [Act.put, List.setIfInBounds_toArray, List.set_cons_zero, List.set_cons_succ]
      refine wpAnyH_ready (rs := [7]) (by kernel_rfl) (by simp) ?_
      refine AllReadyH.cons (o := _) (by simp only [List.getElem?_toArray, List.getElem?_cons_succ, List.getElem?_cons_zero]; exact rfl) (fun K hK => ?_) AllReadyH.nil
      refine step_appLoan rfl (.tmp 23) (.tmp 27) rfl _ w.heap.size _ (zs.take k) rfl (o.drew.pre (by omega)) _ (zs.drop (k + 1)) rfl (HT.out.drew) (by simp; omega) hb.size ?_; intro v5 w5 o5 hg5 _
      refine hK.out _ _ (by first | (dsimp only; done) | ((try dsimp only); skip)) (fun hHeld => ?_)
      clear hK K
      try simp only [Act.put, List.setIfInBounds_toArray, List.set_cons_zero, List.set_cons_succ]
      refine takeI (i := 8) (oi := _) (v := _) (by simp only [List.getElem?_toArray, List.getElem?_cons_succ, List.getElem?_cons_zero]; exact rfl) ⟨by kernel_rfl, by kernel_rfl, by kernel_rfl, by exact fun _ _ _ h => h, Or.inl ⟨by rfl, by (intro w hSw; (try dsimp only at hSw); go_simp; (try with_reducible rfl))⟩, by assumption, ?_⟩
      try simp only [Act.put, List.setIfInBounds_toArray, List.set_cons_zero, List.set_cons_succ]
      refine takeI (i := 9) (oi := _) (v := _) (by simp only [List.getElem?_toArray, List.getElem?_cons_succ, List.getElem?_cons_zero]; exact rfl) ⟨by kernel_rfl, by kernel_rfl, by kernel_rfl, by exact fun _ _ _ h => h, Or.inl ⟨by rfl, by (intro w hSw; (try dsimp only at hSw); go_simp; (try with_reducible rfl))⟩, by assumption, ?_⟩
      try simp only [Act.put, List.setIfInBounds_toArray, List.set_cons_zero, List.set_cons_succ]
      refine wpAnyH_done (by kernel_rfl) ?_ _
      rw [HZ.out.1, HZ.out.2] at o5
      go_wp2
      all_goals
        go_ret2
        exact ⟨_, ret_pairB HK.out.1.symm, by rw [HK.out.2]; exact o5, o.drew.grown_below hb.drew (Nat.le_refl _) hg5⟩
    · have h2' : hasLoan p zs = false := by simpa using h2
      have hL : loanOfF p zs 0 < 0 := by
        have := loanOfF_ge p zs 0 (Int.le_refl _)
        rcases Int.lt_or_le (loanOfF p zs 0) 0 with h3 | h3
        · exact h3
        · exact absurd (this.1 h3) h2
      generalize loanOfF p zs 0 = L at hL
      have hok : giveOk zs p = false := by simp [giveOk, h2']
      have hp : giveF zs p = zs := if_neg (by simp [hok])
      have HK := Lib.hid (And.intro hok hp)
      clear hok hp h2
      rw [h1]
      go_wp2_with (fail)
      go_ret2
      exact ⟨_, ret_pairB HK.out.1.symm, by rw [HK.out.2]; exact o, hb⟩
  · have h1' : loansB zs = false := by simpa using h1
    have hok : giveOk zs p = false := by simp [giveOk, h1']
    have hp : giveF zs p = zs := if_neg (by simp [hok])
    have HK := Lib.hid (And.intro hok hp)
    clear hok hp h1
    rw [h1']
    go_wp2_with (fail)
    go_ret2
    exact ⟨_, ret_pairB HK.out.1.symm, by rw [HK.out.2]; exact o, hb⟩
theorem without_hit {p : Int} {zs : List (Int × Int)} {k : Nat} {x0 x1 : Int} (h : zs.take (k + 1) = zs.take k ++ [(x0, x1)]) (hx : x0 = p) : without p (zs.take (k + 1)) = without p (zs.take k) := by
  rw [h]; unfold without; rw [List.filter_append, List.filter_cons_of_neg (by simp [hx])]; simp
theorem without_miss {p : Int} {zs : List (Int × Int)} {k : Nat} {x0 x1 : Int} (h : zs.take (k + 1) = zs.take k ++ [(x0, x1)]) (hx : x0 ≠ p) : without p (zs.take (k + 1)) = without p (zs.take k) ++ [(x0, x1)] := by
  rw [h]; unfold without; rw [List.filter_append, List.filter_cons_of_pos (by simp [hx])]; simp
set_option maxHeartbeats 800000 in
theorem specGiveBack_any (zs : List (Int × Int)) (p : Int) (hn : zs.length ≤ 1048576) (v : Value) (w : World) (h : RdLoan w v zs) :
    Calls Try.prog 19 #[v, .int .i64 p] w fun e w' => ∃ u, e = .returned (.tuple #[u, .bool (giveOk zs p)]) ∧ OwLoan w' w.heap.size u (giveF zs p) ∧ Below w.heap.size w w' := by
  have HR := Lib.hid h
  obtain ⟨ad, cap, bl, off, rfl, hcap, hmax, had, hc⟩ := h.open
  have HC := Lib.hid hc
  clear h hc
  have hB1 := below_alloc1 w (.cells #[] 46)
  have HE := Lib.hid (OwLoan.empty w w.heap.size (Nat.le_refl _))
  go_enter Try.func19, Try.ntmps19
  go_wp2_with (fail)
  go_loopw [6, 7] (fun u i wr => ∃ (k : Nat) (A : List (Int × Int)), k ≤ zs.length ∧ i = .int .i64 k ∧ OwLoan wr w.heap.size u A ∧ A.length ≤ k ∧ Below w.heap.size w wr ∧ Hid (A = without p (zs.take k))) (fun _ i _ => zs.length - (intOf i).toNat)
  case atStart => exact ⟨0, [], Nat.zero_le _, rfl, HE.out, Nat.le_refl _, hB1, rfl⟩
  case round =>
    clear HE hB1
    obtain ⟨k, A, hk, rfl, ho, hA, hB, HA⟩ := hrel
    by_cases hlt : k < zs.length
    · obtain rfl := had (by omega)
      obtain ⟨⟨x0, x1⟩, hx⟩ : ∃ x, zs[k]? = some x := ⟨_, List.getElem?_eq_getElem hlt⟩
      have hsrc : wr.cell? ⟨bl, off + k * 2, none⟩ = some (.int .i64 x0) ∧ wr.cell? ⟨bl, off + k * 2 + 1, none⟩ = some (.int .i64 x1) := by
        have h1 := HC.out k hlt
        rw [List.getD_eq_getElem?_getD, hx] at h1
        exact ⟨cell_on hB h1.1, cell_on hB h1.2⟩
      obtain ⟨hck0, hck1⟩ := hsrc
      have HX := Lib.hid (And.intro (drop_get? hx) (take_get? hx))
      clear hx
      by_cases hx : x0 = p
      · have HN : Hid (A = without p (zs.take (k + 1))) := by show _ = _; rw [without_hit HX.out.2 hx, HA.out]
        subst hx
        go_wp2_with (fail)
        exact ⟨⟨k + 1, A, by omega, by go_num, ho, by omega, hB, HN⟩, by simp [intOf]; omega⟩
      · have HN : Hid (A ++ [(x0, x1)] = without p (zs.take (k + 1))) := by show _ = _; rw [without_miss HX.out.2 hx, HA.out]
        have hxb : (x0 != p) = true := by simpa [bne] using hx
        have hB2 := hB.alloc hB.size (.cells #[.int .i64 x0, .int .i64 x1] 46)
        go_wp2_with (at_builtin; refine wpList_appLoan rfl (.tmp 22) (.tmp 27) rfl _ w.heap.size _ A rfl (ho.alloc _) _ [(x0, x1)] rfl (rdLoan_one _ _ _) (by simp; omega) hB2.size ?_; intro v1 w2 o1 hgr _; replace hB := (ho.alloc _).grown_below hB2 (Nat.le_refl _) hgr; clear hgr hB2 ho)
        exact ⟨⟨k + 1, A ++ [(x0, x1)], by omega, by go_num, o1, by simp; omega, hB, HN⟩, by simp [intOf]; omega⟩
    · obtain rfl : k = zs.length := by omega
      have hA2 : A = without p zs := by rw [HA.out, List.take_length]
      subst hA2
      clear HA
      obtain ⟨A', cap', rfl, _, _, _⟩ := ho.form
      replace hb := hB
      clear hB
      by_cases h1 : loansB zs = true
      · by_cases h2 : hasLoan p zs = true
        · have hok : giveOk zs p = true := by simp [giveOk, h1, h2]
          have hp : giveF zs p = without p zs := if_pos hok
          have HK := Lib.hid (And.intro hok hp)
          have hne : (((without p zs).length : Int) == (zs.length : Int)) = false := by
            have := without_len h2
            exact beq_eq_false_iff_ne.2 (by omega)
          clear hok hp
          generalize (without p zs).length = m at hne hA ho
          go_wp2_with (fail)
          refine (specLoansOk_b zs _ _ (HR.out.below hb)).mono ?_
          rintro e w3 ⟨rfl, hd⟩
          replace ho := ho.below hd
          replace hb := bvia hb hd
          go_wp2_with (fail)
          go_ret2
          exact ⟨_, ret_pairB HK.out.1.symm, by rw [HK.out.2]; exact ho, hb⟩
        · have h2' : hasLoan p zs = false := by simpa using h2
          have hok : giveOk zs p = false := by simp [giveOk, h2']
          have hp : giveF zs p = zs := if_neg (by simp [hok])
          have HK := Lib.hid (And.intro hok hp)
          have hlen : (without p zs).length = zs.length := by rw [without_id h2']
          rw [hlen]
          clear hok hp h2 ho hA hlen
          go_wp2_with (fail)
          refine (specLoansOk_b zs _ _ (HR.out.below hb)).mono ?_
          rintro e w3 ⟨rfl, hd⟩
          replace hb := bvia hb hd
          clear hd
          have hBx := hb.size
          have hB5 := below_alloc1 w3 (.cells #[] 46)
          have ho5 := OwLoan.empty w3 w3.heap.size (Nat.le_refl _)
          go_wp2_with (at_builtin; refine wpList_appLoan rfl (.tmp 39) (.tmp 40) rfl _ w3.heap.size _ [] rfl ho5 _ zs rfl ((HR.out.below hb).alloc _) (by simp; omega) (by simp) ?_; intro v5 w5 o5 hgr5 _; simp only [List.nil_append] at o5; have hb5 := ho5.grown_below hB5 (Nat.le_refl _) hgr5)
          go_ret2
          exact ⟨_, ret_pairB HK.out.1.symm, by rw [HK.out.2]; exact o5.base hb.size, bvia hb hb5⟩
      · have h1' : loansB zs = false := by simpa using h1
        have hok : giveOk zs p = false := by simp [giveOk, h1']
        have hp : giveF zs p = zs := if_neg (by simp [hok])
        have HK := Lib.hid (And.intro hok hp)
        clear hok hp h1 ho hA
        go_wp2_with (fail)
        refine (specLoansOk_b zs _ _ (HR.out.below hb)).mono ?_
        rintro e w3 ⟨rfl, hd⟩
        replace hb := bvia hb hd
        clear hd
        have hBx := hb.size
        have hB5 := below_alloc1 w3 (.cells #[] 46)
        have ho5 := OwLoan.empty w3 w3.heap.size (Nat.le_refl _)
        go_wp2_with (at_builtin; refine wpList_appLoan rfl (.tmp 39) (.tmp 40) rfl _ w3.heap.size _ [] rfl ho5 _ zs rfl ((HR.out.below hb).alloc _) (by simp; omega) (by simp) ?_; intro v5 w5 o5 hgr5 _; simp only [List.nil_append] at o5; have hb5 := ho5.grown_below hB5 (Nat.le_refl _) hgr5)
        go_ret2
        exact ⟨_, ret_pairB HK.out.1.symm, by rw [HK.out.2]; exact o5.base hb.size, bvia hb hb5⟩
theorem walkFnExactGiveBack (zs : List (Int × Int)) (p : Int) (vzs : Value) (w : World) (hzs : RdLoan w vzs zs) : Calls Try.prog 5 #[vzs, .int .i64 p] w fun e w' => e = .returned (.bool true) ∧ Below w.heap.size w w' := by
  have hmxzs : zs.length ≤ 9223372036854775807 := by obtain ⟨_, _, _, _, _, h1, h2, _⟩ := hzs.open; omega
  obtain ⟨azs, capzs, rfl⟩ := hzs.shape
  by_cases hlzs : zs.length ≤ 1048576
  · skip
    have hB := Below.refl w.heap.size w
    have hyl : (giveF zs p).length ≤ 1048577 := Nat.le_trans (giveF_length zs p) (by omega)
    go_enter Try.func5, Try.ntmps5
    go_wp2_with (fail)
    refine (szLoanS_ok _ _ _ _ (by omega) (by omega) _).mono ?_
    rintro e w' ⟨rfl, rfl⟩
    go_wp2_with (fail)
    refine (toLoanS_any zs (by omega) _ _ (hzs.below hB)).mono ?_
    rintro e w1 ⟨ut0, rfl, ot0, hb⟩
    have bt0 := hB.size
    replace hB := bvia hB hb
    clear hb
    go_wp2_with (fail)
    refine (specGiveBack_any zs p hlzs _ _ ot0.rd).mono ?_
    rintro e w2 ⟨uw, rfl, ow, hb⟩
    have dt0_w := dis_of ot0.lt ow.lt (Nat.le_refl _)
    have dw_t0 := dis_of' ot0.lt ow.lt (Nat.le_refl _)
    have bw := hB.size
    replace ot0 := ot0.below hb
    replace hB := bvia hB hb
    clear hb
    clear ot0
    go_wp2_with (fail)
    refine (toLoanS_any zs (by omega) _ _ (hzs.below hB)).mono ?_
    rintro e w3 ⟨ux0, rfl, ox0, hb⟩
    have dw_x0 := dis_of ow.lt ox0.lt (Nat.le_refl _)
    have dx0_w := dis_of' ow.lt ox0.lt (Nat.le_refl _)
    have bx0 := hB.size
    replace ow := ow.below hb
    replace hB := bvia hB hb
    clear hb
    go_wp2_with (fail)
    refine (implGiveBack_any zs p hlzs _ _ ox0.rd).mono ?_
    rintro e w4 ⟨ug, rfl, og, hb⟩
    have dw_g := dis_of ow.lt og.lt (Nat.le_refl _)
    have dg_w := dis_of' ow.lt og.lt (Nat.le_refl _)
    have dx0_g := dis_of ox0.lt og.lt (Nat.le_refl _)
    have dg_x0 := dis_of' ox0.lt og.lt (Nat.le_refl _)
    have bg := hB.size
    replace ow := ow.below hb
    replace ox0 := ox0.below hb
    replace hB := bvia hB hb
    clear hb
    go_wp2_with (fail)
    refine (eqLoanS_any (giveF zs p) _ _ _ og.rd ow.rd).mono ?_
    rintro e w5 ⟨rfl, hb⟩
    replace ow := ow.below hb
    replace ox0 := ox0.below hb
    replace og := og.below hb
    replace hB := bvia hB hb
    clear hb
    go_wp2_with (fail)
    refine (toLoanS_any zs (by omega) _ _ (hzs.below hB)).mono ?_
    rintro e w6 ⟨uy0, rfl, oy0, hb⟩
    have dw_y0 := dis_of ow.lt oy0.lt (Nat.le_refl _)
    have dy0_w := dis_of' ow.lt oy0.lt (Nat.le_refl _)
    have dx0_y0 := dis_of ox0.lt oy0.lt (Nat.le_refl _)
    have dy0_x0 := dis_of' ox0.lt oy0.lt (Nat.le_refl _)
    have dg_y0 := dis_of og.lt oy0.lt (Nat.le_refl _)
    have dy0_g := dis_of' og.lt oy0.lt (Nat.le_refl _)
    have by0 := hB.size
    replace ow := ow.below hb
    replace ox0 := ox0.below hb
    replace og := og.below hb
    replace hB := bvia hB hb
    clear hb
    go_wp2_with (fail)
    refine (eqLoanS_any zs _ _ _ ox0.rd oy0.rd).mono ?_
    rintro e w7 ⟨rfl, hb⟩
    replace ow := ow.below hb
    replace ox0 := ox0.below hb
    replace og := og.below hb
    replace oy0 := oy0.below hb
    replace hB := bvia hB hb
    clear hb
    clear oy0
    go_wp2_with (fail)
    refine (markLoanS_any zs _ (by omega) (by omega) _ _ _ ox0).mono ?_
    rintro e w8 ⟨rfl, om, hg⟩
    replace ow := ow.kept hg dw_x0
    replace og := og.kept hg dg_x0
    replace hB := ox0.grown_below hB bx0 hg
    clear hg ox0
    have ox0 := om
    clear om
    go_wp2_with (fail)
    refine (eqLoanS_any (giveF zs p) _ _ _ og.rd ow.rd).mono ?_
    rintro e w9 ⟨rfl, hb⟩
    replace ow := ow.below hb
    replace ox0 := ox0.below hb
    replace og := og.below hb
    replace hB := bvia hB hb
    clear hb
    clear ox0
    go_wp2_with (fail)
    refine (markLoanS_any (giveF zs p) _ (by omega) (by omega) _ _ _ og).mono ?_
    rintro e w10 ⟨rfl, om, hg⟩
    replace ow := ow.kept hg dw_g
    replace hB := og.grown_below hB bg hg
    clear hg og
    have og := om
    clear om
    go_wp2_with (fail)
    refine (heldLoanS_any (giveF zs p).length 1 (by omega) (by omega) _ _ og.rd).mono ?_
    rintro e w11 ⟨rfl, rfl⟩
    go_wp2_with (fail)
    refine (toLoanS_any zs (by omega) _ _ (hzs.below hB)).mono ?_
    rintro e w12 ⟨us0, rfl, os0, hb⟩
    have dw_s0 := dis_of ow.lt os0.lt (Nat.le_refl _)
    have ds0_w := dis_of' ow.lt os0.lt (Nat.le_refl _)
    have dg_s0 := dis_of og.lt os0.lt (Nat.le_refl _)
    have ds0_g := dis_of' og.lt os0.lt (Nat.le_refl _)
    have bs0 := hB.size
    replace ow := ow.below hb
    replace og := og.below hb
    replace hB := bvia hB hb
    clear hb
    go_wp2_with (fail)
    refine (implGiveBack_any zs p hlzs _ _ os0.rd).mono ?_
    rintro e w13 ⟨uh, rfl, oh, hb⟩
    have dw_h := dis_of ow.lt oh.lt (Nat.le_refl _)
    have dh_w := dis_of' ow.lt oh.lt (Nat.le_refl _)
    have dg_h := dis_of og.lt oh.lt (Nat.le_refl _)
    have dh_g := dis_of' og.lt oh.lt (Nat.le_refl _)
    have ds0_h := dis_of os0.lt oh.lt (Nat.le_refl _)
    have dh_s0 := dis_of' os0.lt oh.lt (Nat.le_refl _)
    have bh := hB.size
    replace ow := ow.below hb
    replace og := og.below hb
    replace os0 := os0.below hb
    replace hB := bvia hB hb
    clear hb
    clear os0
    go_wp2_with (fail)
    refine (eqLoanS_any (giveF zs p) _ _ _ oh.rd ow.rd).mono ?_
    rintro e w14 ⟨rfl, hb⟩
    replace ow := ow.below hb
    replace og := og.below hb
    replace oh := oh.below hb
    replace hB := bvia hB hb
    clear hb
    go_wp2_with (fail)
    refine (heldLoanS_any (giveF zs p).length 1 (by omega) (by omega) _ _ og.rd).mono ?_
    rintro e w15 ⟨rfl, rfl⟩
    go_wp2_with (fail)
    go_returns
    exact ⟨rfl, hB⟩
  · go_enter Try.func5, Try.ntmps5
    go_wp2_with (fail)
    refine (szLoanS_no _ _ _ (by have := hmxzs; omega) _ (by omega) (by omega) (by omega) _).mono ?_
    rintro e w' ⟨rfl, rfl⟩
    go_wp2_with (fail)
    go_returns
    exact ⟨rfl, Below.refl _ _⟩
end Go.Proofs.Ytgfpnadjkemafaa
