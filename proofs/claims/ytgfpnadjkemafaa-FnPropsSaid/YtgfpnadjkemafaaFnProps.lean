/- The walk of the law FnProps: what is lent is in one scene, and comes back. -/
import Derived.Test.YtgfpnadjkemafaaProps
import Derived.Test.YtgfpnadjkemafaaGive
import Derived.Test.YtgfpnadjkemafaaMove
import Derived.Test.YtgfpnadjkemafaaDraw
namespace Go.Proofs.Ytgfpnadjkemafaa
open Go.ChangeShapes Go.WideShapes Go.ChangeAt Go.RowKit Go.Joins
set_option linter.unusedSimpArgs false
set_option linter.unusedVariables false

/-! ### Plain laws of loans -/
theorem loansF_snoc (zs : List (Int × Int)) (x : Int × Int) : ∀ A, loansF A (zs ++ [x]) = (loansF A zs && (loanB x && !hasLoan x.1 (A ++ zs))) := by
  induction zs with
  | nil => intro A; simp [loansF]
  | cons z r ih =>
    intro A
    rw [List.cons_append, loansF_cons, ih, loansF_cons]
    simp only [List.append_assoc, List.singleton_append, Bool.and_assoc]
theorem hasLoan_no {p : Int} {zs : List (Int × Int)} (h : ∀ x ∈ zs, x.1 ≠ p) : hasLoan p zs = false := by
  refine List.any_eq_false.2 fun x hx => ?_
  simpa using h x hx
/-- What the draws give: valid loans of props below 12 in scenes below 5, at most seven. -/
def Drawn (zs : List (Int × Int)) : Prop := loansF [] zs = true ∧ zs.length ≤ 7 ∧ ∀ x ∈ zs, 0 ≤ x.1 ∧ x.1 ≤ 11 ∧ 0 ≤ x.2 ∧ x.2 ≤ 4
theorem Drawn.ok {zs : List (Int × Int)} (h : Drawn zs) : loansB zs = true := by
  have := h.2.1
  simp [loansB, h.1]
  omega
theorem drawn_nil : Drawn [] := ⟨rfl, by simp, by simp⟩
theorem drawn_lend {zs : List (Int × Int)} {p s : Int} (h : loansF [] zs = true ∧ ∀ x ∈ zs, 0 ≤ x.1 ∧ x.1 ≤ 11 ∧ 0 ≤ x.2 ∧ x.2 ≤ 4) (hp : 0 ≤ p ∧ p ≤ 11) (hs : 0 ≤ s ∧ s ≤ 4) :
    loansF [] (lendF zs p s) = true ∧ ∀ x ∈ lendF zs p s, 0 ≤ x.1 ∧ x.1 ≤ 11 ∧ 0 ≤ x.2 ∧ x.2 ≤ 4 := by
  unfold lendF
  split
  · rename_i hk
    simp only [lendOk, Bool.and_eq_true] at hk
    refine ⟨loansB_F hk.2, fun x hx => ?_⟩
    rcases List.mem_append.1 hx with hx | hx
    · exact h.2 x hx
    · simp at hx; subst hx; exact ⟨hp.1, hp.2, hs.1, hs.2⟩
  · exact h
theorem inB_of {a b c : Int} (h1 : b ≤ a) (h2 : a ≤ c) : inB a b c = true := inB_true.2 ⟨h1, h2⟩
theorem mem_bag {c : Int → Nat} {n : Nat} : ∀ {a x : Int}, x ∈ bag c a n ↔ a ≤ x ∧ x < a + n ∧ 0 < c x := by
  induction n with
  | zero => intro a x; simp [bag]; omega
  | succ n ih =>
    intro a x
    rw [bag, List.mem_append, ih, List.mem_replicate]
    constructor
    · rintro (⟨h1, rfl⟩ | ⟨h1, h2, h3⟩)
      · exact ⟨Int.le_refl _, by omega, by omega⟩
      · exact ⟨by omega, by omega, h3⟩
    · rintro ⟨h1, h2, h3⟩
      by_cases hx : x = a
      · subst hx; exact .inl ⟨by omega, rfl⟩
      · exact .inr ⟨by omega, by omega, h3⟩
theorem drawn_twice (zs : List (Int × Int)) : lendOk (zs ++ [(40, 3)]) 40 4 = false := by
  have h1 : hasLoan 40 (zs ++ [(40, 3)]) = true := by simp [hasLoan]
  have h2 : loansB (zs ++ [(40, 3)] ++ [(40, 4)]) = false := by
    unfold loansB
    rw [loansF_snoc, List.nil_append, h1]
    simp
  rw [lendOk, h2, Bool.and_false]
section
variable {zs : List (Int × Int)} (h : Drawn zs)
include h
theorem drawn_lendOk : lendOk zs 40 3 = true := by
  have h1 : hasLoan 40 zs = false := hasLoan_no fun x hx => by have := h.2.2 x hx; omega
  have h2 := h.2.1
  have h3 : loansB (zs ++ [(40, 3)]) = true := by
    simp only [loansB, loansF_snoc, h.1, List.nil_append, h1, List.length_append, List.length_singleton, loanB]
    simp [inB]
    omega
  simp [lendOk, h.ok, h3]
theorem drawn_lend_eq : lendF zs 40 3 = zs ++ [(40, 3)] := if_pos (drawn_lendOk h)
theorem drawn_x : loansB (zs ++ [(40, 3)]) = true := by
  have := drawn_lendOk h
  simp only [lendOk, Bool.and_eq_true] at this
  exact this.2
theorem drawn_giveOk : giveOk (zs ++ [(40, 3)]) 40 = true := by
  have h1 : hasLoan 40 (zs ++ [(40, 3)]) = true := by simp [hasLoan]
  simp [giveOk, drawn_x h, h1]
theorem drawn_give : giveF (zs ++ [(40, 3)]) 40 = zs := by
  have h1 : without 40 zs = zs := without_id (hasLoan_no fun x hx => by have := h.2.2 x hx; omega)
  rw [giveF, if_pos (drawn_giveOk h)]
  unfold without at h1 ⊢
  rw [List.filter_append, h1]
  simp
theorem drawn_in : (propsR (zs ++ [(40, 3)]) 3).any (· == 40) = true := by
  refine List.any_eq_true.2 ⟨40, ?_, by simp⟩
  rw [propsR, if_pos (drawn_x h), propsF, mem_bag]
  refine ⟨by omega, by omega, ?_⟩
  unfold cntP
  rw [List.countP_append]
  simp
end
theorem bag_length_succ (c : Int → Nat) (q : Int) (n : Nat) (a : Int) (h1 : a ≤ q) (h2 : q < a + n) : (bag (fun p => c p + if p = q then 1 else 0) a n).length = (bag c a n).length + 1 := by
  rw [← putF_bag c q n a h1 h2, putF_length]
theorem props_count (s : Int) (zs : List (Int × Int)) : (∀ x ∈ zs, 0 ≤ x.1 ∧ x.1 ≤ 49) → (bag (cntP zs s) 0 50).length = zs.countP (fun x => x.2 == s) := by
  induction zs with
  | nil => intro _; exact congrArg List.length (bag_zero 50 0)
  | cons z r ih =>
    intro h
    have ih := ih fun x hx => h x (List.mem_cons_of_mem _ hx)
    have hz := h z (by simp)
    by_cases hs : z.2 = s
    · have e : bag (cntP (z :: r) s) 0 50 = bag (fun p => cntP r s p + if p = z.1 then 1 else 0) 0 50 := bag_congr fun p _ => by
        unfold cntP
        rw [List.countP_cons]
        by_cases hp : p = z.1
        · simp [hp, hs]
        · have hp' : ¬ z.1 = p := fun e => hp e.symm
          simp [hp, hp']
      rw [e, bag_length_succ _ _ _ _ hz.1 (by omega), ih, List.countP_cons]
      simp [hs]
    · have e : bag (cntP (z :: r) s) 0 50 = bag (cntP r s) 0 50 := bag_congr fun p _ => by
        unfold cntP
        rw [List.countP_cons]
        simp [hs]
      rw [e, ih, List.countP_cons]
      simp [hs]
/-- How many loans are in scene s. -/
def inScene (zs : List (Int × Int)) (s : Int) : Nat := zs.countP fun x => x.2 == s
theorem propsR_len {zs : List (Int × Int)} (h : loansB zs = true) (s : Int) : (propsR zs s).length = inScene zs s := by
  rw [propsR, if_pos h]
  exact props_count s zs fun x hx => ⟨((loansB_bd h).2 x hx).1, ((loansB_bd h).2 x hx).2.1⟩
/-- The loans in scenes below n. -/
def inS (n : Nat) (x : Int × Int) : Bool := decide (0 ≤ x.2 ∧ x.2 < (n : Int))
def below (zs : List (Int × Int)) (n : Nat) : Nat := zs.countP (inS n)
theorem below_succ (zs : List (Int × Int)) (n : Nat) : below zs (n + 1) = below zs n + inScene zs n := by
  unfold below inScene
  induction zs with
  | nil => rfl
  | cons z r ih =>
    rw [List.countP_cons, List.countP_cons, List.countP_cons, ih]
    by_cases h1 : z.2 = (n : Int)
    · have e1 : inS (n + 1) z = true := decide_eq_true (by omega)
      have e2 : inS n z = false := decide_eq_false (by omega)
      have e3 : (z.2 == (n : Int)) = true := by simp [h1]
      rw [e1, e2, e3]
      simp
      omega
    · have e : inS (n + 1) z = inS n z := decide_eq_decide.2 (by omega)
      have e3 : (z.2 == (n : Int)) = false := beq_eq_false_iff_ne.2 h1
      rw [e, e3]
      simp
      omega
theorem below_zero (zs : List (Int × Int)) : below zs 0 = 0 := List.countP_eq_zero.2 fun x _ => by simp [inS]
theorem below_le (zs : List (Int × Int)) (n : Nat) : below zs n ≤ zs.length := List.countP_le_length
theorem below_all {zs : List (Int × Int)} (h : ∀ x ∈ zs, 0 ≤ x.2 ∧ x.2 ≤ 9) : below zs 10 = zs.length := by
  unfold below
  refine List.countP_eq_length.2 fun x hx => ?_
  have := h x hx
  exact decide_eq_true (by omega)
theorem mem_empty {zs : List (Int × Int)} {n : Nat} (s : Nat) : (s : Int) ∈ emptyF zs n ↔ s < n ∧ (propsR zs s).length = 0 := by
  induction n with
  | zero => simp [emptyF]
  | succ n ih =>
    rw [emptyF, List.mem_append, ih]
    constructor
    · rintro (⟨h1, h2⟩ | h1)
      · exact ⟨by omega, h2⟩
      · split at h1
        · rename_i hn
          simp at h1
          obtain rfl : s = n := by omega
          exact ⟨by omega, hn⟩
        · simp at h1
    · rintro ⟨h1, h2⟩
      by_cases hs : s = n
      · subst hs; right; rw [if_pos h2]; simp
      · exact .inl ⟨by omega, h2⟩
theorem empty_any {zs : List (Int × Int)} (h : loansB zs = true) {s : Nat} (hs : s < 10) : (emptyR zs 10).any (· == (s : Int)) = decide ((propsR zs s).length = 0) := by
  rw [emptyR, if_pos ⟨h, by omega⟩]
  have h1 := mem_empty (zs := zs) (n := 10) s
  by_cases h2 : (propsR zs s).length = 0
  · have h3 := h1.2 ⟨hs, h2⟩
    simp [h2]
    exact h3
  · have h3 : ¬ (s : Int) ∈ emptyF zs 10 := fun h4 => h2 (h1.1 h4).2
    have h4 : (emptyF zs 10).any (· == (s : Int)) = false := List.any_eq_false.2 fun x hx => by
      intro he
      have : x = (s : Int) := by simpa using he
      subst this
      exact h3 hx
    rw [decide_eq_false h2]
    exact h4
/-! moving -/
theorem hasLoan_map (p : Int) (A : List (Int × Int)) (a b : Int) : hasLoan p (moveF a b A) = hasLoan p A := by
  unfold hasLoan moveF
  rw [List.any_map]
  refine List.any_congr rfl fun x => ?_
  simp only [Function.comp]
  split <;> rfl
theorem loansF_move {a b : Int} (hb : 0 ≤ b ∧ b ≤ 99) (zs : List (Int × Int)) : ∀ A, loansF A zs = true → loansF (moveF a b A) (moveF a b zs) = true := by
  induction zs with
  | nil => intro A _; rfl
  | cons z r ih =>
    intro A h
    rw [loansF_cons, Bool.and_eq_true, Bool.and_eq_true] at h
    have h2 := ih _ h.2
    have e : moveF a b (A ++ [z]) = moveF a b A ++ [if z.2 = a then (z.1, b) else z] := by simp [moveF]
    rw [e] at h2
    show loansF (moveF a b A) ((if z.2 = a then (z.1, b) else z) :: moveF a b r) = true
    rw [loansF_cons, h2, hasLoan_map]
    have h3 : (if z.2 = a then (z.1, b) else z).1 = z.1 := by split <;> rfl
    rw [h3, h.1.2]
    have h4 : loanB (if z.2 = a then (z.1, b) else z) = true := by
      split
      · have := loanB_bd h.1.1
        simp [loanB, inB]
        omega
      · exact h.1.1
    rw [h4]
    rfl
theorem movN_eq (a : Int) (zs : List (Int × Int)) : movN a zs = inScene zs a := by
  unfold inScene
  induction zs with
  | nil => rfl
  | cons z r ih =>
    rw [movN, ih, List.countP_cons]
    by_cases h : z.2 = a
    · simp [h]; omega
    · simp [h]
theorem inScene_moved {a b : Int} (hab : a ≠ b) (zs : List (Int × Int)) : inScene (moveF a b zs) a = 0 := by
  unfold inScene
  refine List.countP_eq_zero.2 fun x hx => ?_
  obtain ⟨z, _, rfl⟩ := List.mem_map.1 hx
  split
  · simp; omega
  · rename_i h; simpa using h
theorem inScene_moved_to {a b : Int} (zs : List (Int × Int)) (h : ∀ x ∈ zs, x.2 ≠ b) : inScene (moveF a b zs) b = inScene zs a := by
  unfold inScene moveF
  rw [List.countP_map]
  refine List.countP_congr fun x hx => ?_
  have := h x hx
  simp only [Function.comp]
  split
  · rename_i h1; simp [h1]
  · rename_i h1; simp [this, h1]

theorem below_drewN {B : Nat} {a w : World} (h : Below B a w) (n : Nat) : Below B a (w.drewN n) := ⟨h.os, h.tape, h.output, h.size, h.block⟩
/-! ### The draws -/
set_option maxHeartbeats 800000 in
theorem l29List_any (B g : Nat) (w : World) (h : Cur w B g) :
    Calls Try.prog 41 #[.pointer (some ⟨g, 0, none⟩)] w fun e w' => ∃ u, e = .returned u ∧ ∃ zs, OwLoan w' B u zs ∧ Drawn zs ∧ Below B w w' := by
  obtain ⟨hBg, hgw⟩ := h.lt'
  have hBw : B ≤ w.heap.size := by omega
  have hc := h.below (below_alloc1 w (.cells #[] 46))
  have hB := (below_alloc1 w (.cells #[] 46)).mono hBw
  have HE := Lib.hid (OwLoan.empty w w.heap.size (Nat.le_refl _))
  go_enter Try.func41, Try.ntmps41
  go_wp2_with (fail)
  refine (l01Below_any B g 8 (by omega) _ hc).mono ?_
  rintro e w1 ⟨m, rfl, m0, m1, _, hc1, hg⟩
  replace hB := below_cur hB hg hBg (by simp; omega)
  replace HE := Lib.hid (HE.out.kept hg (dis_cur HE.out.lt hgw))
  have hs1 := hB.size
  clear hg hc
  replace m1 := m1 (by omega)
  go_wp2_with (fail)
  go_loopw [3, 4] (fun u i wr => ∃ (k : Int) (A : List (Int × Int)), 0 ≤ k ∧ k ≤ 7 ∧ i = .int .i64 k ∧ OwLoan wr w.heap.size u A ∧ A.length + k ≤ 7 ∧ Cur wr B g ∧ Below B w wr ∧ Hid (loansF [] A = true ∧ ∀ x ∈ A, 0 ≤ x.1 ∧ x.1 ≤ 11 ∧ 0 ≤ x.2 ∧ x.2 ≤ 4)) (fun _ i _ => (intOf i).toNat)
  case atStart => exact ⟨m, [], m0, by omega, rfl, HE.out, by simp; omega, hc1, hB, ⟨rfl, by simp⟩⟩
  case round =>
    clear HE hB hc1 hs1
    obtain ⟨k, A, k0, k7, rfl, ho, hA, hc, hB, HA⟩ := hrel
    have hs := hB.size
    by_cases hlt : 0 < k
    · go_wp2_with (fail)
      refine (l01Below_any B g 12 (by omega) _ hc).mono ?_
      rintro e w2 ⟨p, rfl, p0, p1, _, hc2, hg⟩
      replace hB := below_cur hB hg hBg (by omega)
      replace ho := ho.kept hg (dis_cur ho.lt hgw)
      clear hg hc
      go_wp2_with (fail)
      refine (l01Below_any B g 5 (by omega) _ hc2).mono ?_
      rintro e w3 ⟨s, rfl, s0, s1, _, hc3, hg⟩
      replace hB := below_cur hB hg hBg (by have := hB.size; omega)
      replace ho := ho.kept hg (dis_cur ho.lt hgw)
      clear hg hc2
      have hs3 := hB.size
      go_wp2_with (fail)
      refine (specLend_any A p s (by omega) _ _ ho.rd).mono ?_
      rintro e w4 ⟨u4, rfl, o4, hb⟩
      replace hc3 := hc3.below hb
      replace hB := below_via hB hb (by omega)
      clear hb
      have hD := drawn_lend HA.out ⟨p0, by have := p1 (by omega); omega⟩ ⟨s0, by have := s1 (by omega); omega⟩
      have hl := lendF_length A p s
      replace o4 := o4.base (show w.heap.size ≤ w3.heap.size from hs3)
      generalize lendF A p s = A2 at hD hl o4
      have HD := Lib.hid hD
      clear hD ho p1 s1
      go_wp2_with (fail)
      exact ⟨⟨k - 1, A2, by omega, by omega, by go_num, o4, by omega, hc3, hB, HD⟩, by simp [intOf]; omega⟩
    · go_wp2
      go_ret
      exact ⟨_, rfl, A, ho.base hBw, ⟨HA.out.1, by omega, HA.out.2⟩, hB⟩
theorem drawLoans_any (n : Nat) (v : Value) (w : World) (h : RdB w w.heap.size v n) :
    Calls Try.prog 31 #[v] w fun e w' => ∃ u, e = .returned u ∧ ∃ zs, OwLoan w' w.heap.size u zs ∧ Drawn zs ∧ Below w.heap.size w w' := by
  go_enter Try.func31, Try.ntmps31
  go_wp2_with (fail)
  refine (l01New_any n v w h).mono ?_
  rintro e w1 ⟨g, rfl, hc, hb⟩
  go_wp2_with (fail)
  refine (l29List_any _ g w1 hc).mono ?_
  rintro e w2 ⟨u, rfl, zs, ho, hD, hb2⟩
  go_wp2_with (fail)
  go_ret
  exact ⟨u, rfl, zs, ho, hD, hb.trans hb2⟩
theorem has_any (zs : List Int) (q : Int) (v : Value) (w : World) (h : RdI w v zs) : Calls Try.prog 32 #[v, .int .i64 q] w fun e w' => e = .returned (.bool (zs.any (· == q))) ∧ w = w' := by
  obtain ⟨ad, cap, bl, off, rfl, hcap, hmax, had, hc⟩ := h.open
  have HC := Lib.hid hc
  clear h hc
  go_enter Try.func32, Try.ntmps32
  go_wp2
  go_loop [5] (fun i => ∃ k : Nat, k ≤ zs.length ∧ i = .int .i64 k ∧ Hid ((zs.drop k).any (· == q) = zs.any (· == q))) (fun i => zs.length - (intOf i).toNat)
  case atStart => exact ⟨0, Nat.zero_le _, rfl, rfl⟩
  case round =>
    obtain ⟨k, hk, rfl, H⟩ := hrel
    by_cases hlt : k < zs.length
    · obtain rfl := had (by omega)
      obtain ⟨x, hck, HX⟩ : ∃ x, w.cell? ⟨bl, off + k, none⟩ = some (.int .i64 x) ∧ Hid (zs.drop k = x :: zs.drop (k + 1)) := ⟨_, HC.out k hlt, drop_one hlt⟩
      by_cases hx : x = q
      · subst hx
        go_wp2
        go_ret
        exact ⟨ret_bool (by rw [← H.out, HX.out]; simp), rfl⟩
      · have hxb : (x == q) = false := beq_eq_false_iff_ne.2 hx
        go_wp2
        exact ⟨⟨k + 1, by omega, by go_num, by show _ = _; rw [← H.out, HX.out, List.any_cons, hxb]; rfl⟩, by simp [intOf]; omega⟩
    · go_wp2
      go_ret
      obtain rfl : k = zs.length := by omega
      exact ⟨ret_bool (by rw [← H.out, List.drop_length]; rfl), rfl⟩

/-! ### The law -/
set_option maxHeartbeats 1600000 in
theorem walkFnProps (n : Nat) (v : Value) (w : World) (hr : RdB w w.heap.size v n) : Calls Try.prog 9 #[v] w fun e w' => e = .returned (.bool true) ∧ Below w.heap.size w w' := by
  by_cases hbig : n ≤ 1048576
  · have hbd : decide (1048576 < n) = false := decide_eq_false (by omega)
    have hB := Below.refl w.heap.size w
    go_enter Try.func9, Try.ntmps9
    go_wp2_with (fail)
    refine (big_any n _ _ _ hr).mono ?_
    rintro e w1 ⟨rfl, rfl⟩
    go_wp2_with (fail)
    refine (drawLoans_any n _ _ hr).mono ?_
    rintro e w2 ⟨ul, rfl, zs, ol, hD, hb⟩
    have zol := hB.size
    replace hr := hr.below hb
    replace hB := bvia hB hb
    clear hb
    have hl7 := hD.2.1
    have hLB := Lib.hid hD.ok
    have HD := Lib.hid hD
    clear hD
    go_wp2_with (fail)
    refine (implLend_any zs 40 3 (by omega) _ _ ol.rd).mono ?_
    rintro e w3 ⟨ux, rfl, ox, hb⟩
    have zox := hB.size
    replace hr := hr.below hb
    replace ol := ol.below hb
    replace hB := bvia hB hb
    clear hb
    rw [drawn_lendOk HD.out] 
    rw [drawn_lend_eq HD.out] at ox
    go_wp2_with (fail)
    refine (implLend_any (zs ++ [(40, 3)]) 40 4 (by simp; omega) _ _ ox.rd).mono ?_
    rintro e w4 ⟨ut, rfl, ot, hb⟩
    replace hr := hr.below hb
    replace ol := ol.below hb
    replace ox := ox.below hb
    replace hB := bvia hB hb
    clear hb
    rw [drawn_twice zs]
    clear ot
    go_wp2_with (fail)
    refine (implGiveBack_any (zs ++ [(40, 3)]) 40 (by simp; omega) _ _ ox.rd).mono ?_
    rintro e w5 ⟨uy, rfl, oy, hb⟩
    have zoy := hB.size
    replace hr := hr.below hb
    replace ol := ol.below hb
    replace ox := ox.below hb
    replace hB := bvia hB hb
    clear hb
    rw [drawn_giveOk HD.out]
    rw [drawn_give HD.out] at oy
    obtain ⟨ay, capy, rfl, hcy, hmy, hay⟩ := oy.form
    obtain ⟨al, capl, rfl, hcl, hml, hal⟩ := ol.form
    go_wp2_with (fail)
    refine (implPropsIn_any _ 3 _ _ ox.rd).mono ?_
    rintro e w6 ⟨up, rfl, op, hb⟩
    have zop := hB.size
    replace hr := hr.below hb
    replace ol := ol.below hb
    replace ox := ox.below hb
    replace oy := oy.below hb
    replace hB := bvia hB hb
    clear hb
    go_wp2_with (fail)
    refine (has_any _ 40 _ _ op.rd).mono ?_
    rintro e w7 ⟨rfl, rfl⟩
    rw [drawn_in HD.out]
    clear op ox
    go_wp2_with (fail)
    have HOL := Lib.hid ol
    have HOY := Lib.hid oy
    have HR := Lib.hid hr
    clear ol oy hr
    go_loopw [10] (fun i wr => ∃ k : Nat, k ≤ zs.length ∧ i = .int .i64 k ∧ Below w.heap.size w wr ∧ Hid (OwLoan wr w.heap.size (.slice al zs.length capl) zs ∧ RdB wr w.heap.size v n) ∧ Hid (OwLoan wr w.heap.size (.slice ay zs.length capy) zs)) (fun i _ => zs.length - (intOf i).toNat)
    case atStart => exact ⟨0, Nat.zero_le _, rfl, hB, ⟨HOL.out.base (by omega), HR.out⟩, HOY.out.base (by omega)⟩
    case round =>
      clear HOL HOY HR hB
      obtain ⟨k, hk, rfl, hB, HOL, HOY⟩ := hrel
      by_cases hlt : k < zs.length
      · obtain ⟨gy, rfl, _, _⟩ := hay (by omega)
        obtain ⟨gl, rfl, _, _⟩ := hal (by omega)
        obtain ⟨hd0, hd1, _⟩ := HOL.out.1.cell hlt
        obtain ⟨he0, he1, _⟩ := HOY.out.cell hlt
        generalize zs.getD k (0, 0) = x at hd0 hd1 he0 he1
        obtain ⟨x0, x1⟩ := x
        go_wp2
        go_quiet (fail)
        go_wp2
        exact ⟨⟨k + 1, by omega, by go_num, below_drewN hB _, ⟨HOL.out.1.drewN _, HOL.out.2.drewN _⟩, HOY.out.drewN _⟩, by simp [intOf]; omega⟩
      · obtain ⟨ol, hr⟩ := HOL.out
        clear HOL HOY hay
        go_wp2_with (fail)
        refine (implEmptyScenes_any zs 10 _ _ ol.rd).mono ?_
        rintro e w8 ⟨ue, rfl, oe, hb⟩
        have zoe := hB.size
        replace ol := ol.below hb
        replace hr := hr.below hb
        replace hB := bvia hB hb
        clear hb
        go_wp2_with (fail)
        have hl10 : loansB zs = true := hLB.out
        have HO := Lib.hid (And.intro ol (And.intro hr (oe.base zoe)))
        clear ol hr oe
        go_loopw [11, 13] (fun s i wr => ∃ k : Nat, k ≤ 10 ∧ i = .int .i64 k ∧ s = .int .i64 (below zs k : Nat) ∧ Below w.heap.size w wr ∧ Hid (OwLoan wr w.heap.size (.slice al zs.length capl) zs ∧ RdB wr w.heap.size v n ∧ OwI wr w.heap.size ue (emptyR zs 10))) (fun _ i _ => 10 - (intOf i).toNat)
        case atStart => exact ⟨0, by omega, rfl, by rw [below_zero]; rfl, hB, HO.out⟩
        case round =>
          clear HO hB
          obtain ⟨k, hk, rfl, rfl, hB, HO⟩ := hrel
          by_cases hlk : k < 10
          · obtain ⟨ol, hr, oe⟩ := HO.out
            clear HO
            go_wp2_with (fail)
            refine (implPropsIn_any zs k _ _ ol.rd).mono ?_
            rintro e w9 ⟨up, rfl, op, hb⟩
            replace ol := ol.below hb
            replace hr := hr.below hb
            replace oe := oe.below hb
            replace hB := bvia hB hb
            clear hb
            obtain ⟨ap, cp, rfl, _, _, _⟩ := op.form
            clear op
            have hle := below_le zs k
            have hle2 := below_le zs (k + 1)
            rw [below_succ] at hle2
            rw [propsR_len hl10]
            have HE := Lib.hid (empty_any hl10 hlk)
            rw [propsR_len hl10] at HE
            have hsucc := Lib.hid (below_succ zs k)
            generalize inScene zs k = m at HE hsucc hle2
            generalize below zs k = q at hsucc hle hle2
            go_wp2_with (fail)
            refine (has_any _ k _ _ oe.rd).mono ?_
            rintro e w7 ⟨rfl, rfl⟩
            rw [HE.out]
            have HN : Hid (Value.int .i64 ((q : Int) + (m : Int)) = Value.int .i64 ((below zs (k + 1) : Nat) : Int)) := by
              show _ = _
              rw [hsucc.out]
              rfl
            clear HE hsucc
            by_cases hm : m = 0
            · subst hm
              go_wp2_with (fail)
              exact ⟨⟨k + 1, by omega, by go_num, HN.out, hB, ⟨ol, hr, oe⟩⟩, by simp [intOf]; omega⟩
            · have hmb : ((m : Int) == 0) = false := beq_eq_false_iff_ne.2 (by omega)
              have hmd : decide (m = 0) = false := decide_eq_false hm
              go_wp2_with (fail)
              exact ⟨⟨k + 1, by omega, by go_num, HN.out, hB, ⟨ol, hr, oe⟩⟩, by simp [intOf]; omega⟩
          · obtain rfl : k = 10 := by omega
            obtain ⟨ol, hr, oe⟩ := HO.out
            clear HO oe
            rw [below_all (fun x hx => by have := HD.out.2.2 x hx; omega)]
            go_wp2_with (fail)
            refine (at_any n 0 (by omega) (by omega) _ _ _ hr).mono ?_
            rintro e w9 ⟨x, rfl, x0, x1, hd⟩
            have hb := hd.below; clear hd
            replace ol := ol.below hb
            replace hr := hr.below hb
            replace hB := bvia hB hb
            clear hb
            go_wp2_with (fail)
            have hq : 0 ≤ x % 5 ∧ x % 5 ≤ 4 := by omega
            generalize x % 5 = q at hq
            clear x0 x1
            refine (implMovePropsTo_any zs q 9 (by omega) _ _ ol.rd).mono ?_
            rintro e w10 ⟨um, rfl, om, hb⟩
            have zom := hB.size
            replace ol := ol.below hb
            replace hr := hr.below hb
            replace hB := bvia hB hb
            clear hb
            have hM : loansB (moveF q 9 zs) = true := by
              have h1 := loansF_move (a := q) (b := 9) (by omega) zs [] (loansB_F hl10)
              simp only [loansB, moveF_length, Bool.and_eq_true, decide_eq_true_eq]
              exact ⟨by omega, h1⟩
            have hok : movOk q 9 zs = true := by simp [movOk, hl10, hM]
            rw [show movR q 9 zs = (inScene zs q : Nat) from (if_pos hok).trans (movN_eq q zs)]
            rw [show movL q 9 zs = moveF q 9 zs from if_pos hok] at om
            have HQ := Lib.hid hq
            have hz9 : inScene (moveF q 9 zs) q = 0 := inScene_moved (by omega) zs
            have hn9 : inScene (moveF q 9 zs) 9 = inScene zs q := inScene_moved_to zs (fun x hx => by have := HD.out.2.2 x hx; omega)
            clear hq hok
            go_wp2_with (fail)
            refine (implPropsIn_any zs q _ _ ol.rd).mono ?_
            rintro e w11 ⟨up, rfl, op, hb⟩
            replace ol := ol.below hb
            replace hr := hr.below hb
            replace om := om.below hb
            replace hB := bvia hB hb
            clear hb
            obtain ⟨ap, cp, rfl, _, _, _⟩ := op.form
            clear op
            rw [propsR_len hl10]
            go_wp2_with (fail)
            refine (implPropsIn_any (moveF q 9 zs) q _ _ om.rd).mono ?_
            rintro e w12 ⟨up2, rfl, op2, hb⟩
            replace ol := ol.below hb
            replace hr := hr.below hb
            replace om := om.below hb
            replace hB := bvia hB hb
            clear hb
            obtain ⟨ap2, cp2, rfl, _, _, _⟩ := op2.form
            clear op2
            rw [propsR_len hM, hz9]
            go_wp2_with (fail)
            refine (implPropsIn_any (moveF q 9 zs) 9 _ _ om.rd).mono ?_
            rintro e w13 ⟨up3, rfl, op3, hb⟩
            replace ol := ol.below hb
            replace hr := hr.below hb
            replace om := om.below hb
            replace hB := bvia hB hb
            clear hb
            obtain ⟨ap3, cp3, rfl, _, _, _⟩ := op3.form
            clear op3
            rw [propsR_len hM, hn9]
            go_wp2_with (fail)
            refine (implLoansOk_any (moveF q 9 zs) _ _ om.rd).mono ?_
            rintro e w14 ⟨rfl, hb⟩
            replace ol := ol.below hb
            replace hr := hr.below hb
            replace om := om.below hb
            replace hB := bvia hB hb
            clear hb
            rw [hM]
            go_wp2_with (fail)
            go_returns
            exact ⟨rfl, hB⟩
  · have hbd : decide (1048576 < n) = true := decide_eq_true (by omega)
    go_enter Try.func9, Try.ntmps9
    go_wp2_with (fail)
    refine (big_any n _ _ _ hr).mono ?_
    rintro e w1 ⟨rfl, rfl⟩
    go_wp2_with (fail)
    go_returns
    exact ⟨rfl, Below.refl _ _⟩
end Go.Proofs.Ytgfpnadjkemafaa
