/- The walks of Walk: one puppet goes one step. -/
import Derived.Test.YtcpkbohopicabaaSpots
import Derived.Test.YtcpkbohopicabaaApSpot
import Derived.StillTailTactics
namespace Go.Proofs.Ytcpkbohopicabaa
open Go.ChangeShapes Go.WideShapes Go.ChangeAt Go.RowKit Go.Joins
set_option linter.unusedSimpArgs false
set_option linter.unusedVariables false

theorem ret_pairB' {u : Value} {a b : Bool} (h : a = b) : Ending.returned (.tuple #[u, .bool a]) = .returned (.tuple #[u, .bool b]) := by rw [h]
theorem spotsF_mem {wd ht : Int} (zs : List Sp) : ∀ A, spotsF wd ht A zs = true → ∀ x ∈ zs, spotB wd ht x = true := by
  induction zs with
  | nil => intro A _ x hx; simp at hx
  | cons z r ih =>
    intro A h x hx
    rw [spotsF_cons, Bool.and_eq_true, Bool.and_eq_true] at h
    rcases List.mem_cons.1 hx with rfl | hx
    · exact h.1.1
    · exact ih _ h.2 x hx
theorem spotB_bd {wd ht : Int} {x : Sp} (h : spotB wd ht x = true) : 0 ≤ x.1 ∧ x.1 ≤ wd - 1 ∧ 0 ≤ x.2 ∧ x.2 ≤ ht - 1 := by
  simp only [spotB, Bool.and_eq_true] at h
  have h1 := inB_true.1 h.1
  have h2 := inB_true.1 h.2
  exact ⟨h1.1, h1.2, h2.1, h2.2⟩
theorem spotsB_bd {wd ht : Int} {zs : List Sp} (h : spotsB wd ht zs = true) : (1 ≤ wd ∧ wd ≤ 12) ∧ (1 ≤ ht ∧ ht ≤ 12) ∧ zs.length ≤ 7 ∧ spotsF wd ht [] zs = true := by
  simp only [spotsB, Bool.and_eq_true, decide_eq_true_eq] at h
  exact ⟨inB_true.1 h.1.1.1, inB_true.1 h.1.1.2, h.1.2, h.2⟩
theorem spotsB_mem {wd ht : Int} {zs : List Sp} (h : spotsB wd ht zs = true) {x : Sp} (hx : x ∈ zs) : 0 ≤ x.1 ∧ x.1 ≤ wd - 1 ∧ 0 ≤ x.2 ∧ x.2 ≤ ht - 1 :=
  spotB_bd (spotsF_mem zs [] (spotsB_bd h).2.2.2 x hx)
def stepTo (zs : List Sp) (k dx dy : Int) : List Sp := zs.set k.toNat ((zs.getD k.toNat (0, 0)).1 + dx, (zs.getD k.toNat (0, 0)).2 + dy)
def stepIn (wd ht : Int) (zs : List Sp) (k dx dy : Int) : Bool := spotsB wd ht zs && inB k 0 (zs.length - 1) && inB dx (-1) 1 && inB dy (-1) 1
def stepOk (wd ht : Int) (zs : List Sp) (k dx dy : Int) : Bool := stepIn wd ht zs k dx dy && spotsB wd ht (stepTo zs k dx dy)
def stepL (wd ht : Int) (zs : List Sp) (k dx dy : Int) : List Sp := if stepOk wd ht zs k dx dy = true then stepTo zs k dx dy else zs
theorem stepTo_length (zs : List Sp) (k dx dy : Int) : (stepTo zs k dx dy).length = zs.length := by simp [stepTo]
theorem stepL_length (wd ht : Int) (zs : List Sp) (k dx dy : Int) : (stepL wd ht zs k dx dy).length = zs.length := by
  unfold stepL
  split
  · exact stepTo_length zs k dx dy
  · rfl
set_option maxHeartbeats 1600000 in
theorem implWalk_any (wd ht : Int) (zs : List Sp) (k dx dy : Int) (hn : zs.length ≤ 1048576) (v : Value) (w : World) (h : RdSpot w v zs) :
    Calls Try.prog 28 #[.int .i64 wd, .int .i64 ht, v, .int .i64 k, .int .i64 dx, .int .i64 dy] w fun e w' => ∃ u, e = .returned (.tuple #[u, .bool (stepOk wd ht zs k dx dy)]) ∧ OwSpot w' w.heap.size u (stepL wd ht zs k dx dy) ∧ Below w.heap.size w w' := by
  have cw : ∀ (x lo hi : Int) (b : Bool), inB x lo hi = b → ∀ u, Calls Try.prog 42 #[.int .i64 x, .int .i64 lo, .int .i64 hi] u fun e w' => e = .returned (.bool b) ∧ u = w' := fun x lo hi b hb u => by have := within_any x lo hi u; rwa [hb] at this
  have hB1 := below_alloc1 w (.cells #[] 50)
  have ho := OwSpot.empty w w.heap.size (Nat.le_refl _)
  have hmx : zs.length ≤ 9223372036854775807 := by omega
  obtain ⟨az, capz, rfl⟩ := h.shape
  go_enter Try.func28, Try.ntmps28
  go_wp2_with (at_builtin; refine wpList_appSpot rfl (.tmp 15) (.tmp 16) rfl _ w.heap.size _ [] rfl ho _ zs rfl (h.alloc _) (by simp; omega) (by simp) ?_; intro v0 w1 o1 hgr0 _; simp only [List.nil_append] at o1; have hb := ho.grown_below hB1 (Nat.le_refl _) hgr0; clear hgr0 ho hB1)
  obtain ⟨A, cap, rfl, hcap, hmax, had⟩ := o1.form
  refine (implSpotsOk_any wd ht zs _ _ (h.below hb)).mono ?_
  rintro e w2 ⟨rfl, hd⟩
  replace o1 := o1.below hd
  replace hb := bvia hb hd
  clear hd
  cases h1 : spotsB wd ht zs with
  | false =>
    have hok : stepOk wd ht zs k dx dy = false := by simp [stepOk, stepIn, h1]
    have hp : stepL wd ht zs k dx dy = zs := if_neg (by simp [hok])
    have HK := Lib.hid (And.intro hok hp)
    clear hok hp
    go_wp2_with (fail)
    go_ret2
    exact ⟨_, ret_pairB' HK.out.1.symm, by rw [HK.out.2]; exact o1, hb⟩
  | true =>
    obtain ⟨hwb, hhb, hl7, _⟩ := spotsB_bd h1
    cases h2 : inB k 0 ((zs.length : Int) - 1) with
    | false =>
      have hok : stepOk wd ht zs k dx dy = false := by simp [stepOk, stepIn, h2]
      have hp : stepL wd ht zs k dx dy = zs := if_neg (by simp [hok])
      have HK := Lib.hid (And.intro hok hp)
      clear hok hp
      go_wp2_with (fail)
      refine (cw k _ _ _ h2 _).mono ?_
      rintro e w9 ⟨rfl, rfl⟩
      go_wp2_with (fail)
      go_ret2
      exact ⟨_, ret_pairB' HK.out.1.symm, by rw [HK.out.2]; exact o1, hb⟩
    | true =>
      cases h3 : inB dx (-1) 1 with
      | false =>
        have hok : stepOk wd ht zs k dx dy = false := by simp [stepOk, stepIn, h3]
        have hp : stepL wd ht zs k dx dy = zs := if_neg (by simp [hok])
        have HK := Lib.hid (And.intro hok hp)
        clear hok hp
        go_wp2_with (fail)
        refine (cw k _ _ _ h2 _).mono ?_
        rintro e w9 ⟨rfl, rfl⟩
        go_wp2_with (fail)
        refine (cw dx _ _ _ h3 _).mono ?_
        rintro e w9 ⟨rfl, rfl⟩
        go_wp2_with (fail)
        go_ret2
        exact ⟨_, ret_pairB' HK.out.1.symm, by rw [HK.out.2]; exact o1, hb⟩
      | true =>
        cases h4 : inB dy (-1) 1 with
        | false =>
          have hok : stepOk wd ht zs k dx dy = false := by simp [stepOk, stepIn, h4]
          have hp : stepL wd ht zs k dx dy = zs := if_neg (by simp [hok])
          have HK := Lib.hid (And.intro hok hp)
          clear hok hp
          go_wp2_with (fail)
          refine (cw k _ _ _ h2 _).mono ?_
          rintro e w9 ⟨rfl, rfl⟩
          go_wp2_with (fail)
          refine (cw dx _ _ _ h3 _).mono ?_
          rintro e w9 ⟨rfl, rfl⟩
          go_wp2_with (fail)
          refine (cw dy _ _ _ h4 _).mono ?_
          rintro e w9 ⟨rfl, rfl⟩
          go_wp2_with (fail)
          go_ret2
          exact ⟨_, ret_pairB' HK.out.1.symm, by rw [HK.out.2]; exact o1, hb⟩
        | true =>
          have hkb := inB_true.1 h2
          have hxb := inB_true.1 h3
          have hyb := inB_true.1 h4
          obtain ⟨n, rfl⟩ : ∃ n : Nat, k = n := ⟨k.toNat, by omega⟩
          have hn : n < zs.length := by omega
          obtain ⟨g, rfl, hg, hgw⟩ := had (by omega)
          obtain ⟨⟨x0, x1⟩, hx⟩ : ∃ x, zs[n]? = some x := ⟨_, List.getElem?_eq_getElem hn⟩
          have hgd : zs.getD n (0, 0) = (x0, x1) := by rw [List.getD_eq_getElem?_getD, hx]; rfl
          obtain ⟨x0l, x0h, x1l, x1h⟩ := spotsB_mem h1 (List.mem_of_getElem? hx)
          dsimp only at x0l x0h x1l x1h
          have hfz := (o1.cell hn).2.2
          have HLN := Lib.hid (stepTo_length zs n dx dy)
          obtain ⟨az2, capz2, blz, offz, hvz, _, _, hadz, hcz⟩ := (h.below hb).open
          simp only [Value.slice.injEq] at hvz
          obtain ⟨rfl, _, rfl⟩ := hvz
          have hazz := hadz (by omega)
          have hsrc := hcz n hn
          rw [hgd] at hsrc
          dsimp only at hsrc
          subst hazz
          clear hcz hadz hx
          have HSTEP : Hid (stepOk wd ht zs n dx dy = spotsB wd ht (stepTo zs n dx dy)) := by show _ = _; simp [stepOk, stepIn, h1, h2, h3, h4]
          have HSL := Lib.hid (fun hb : spotsB wd ht (stepTo zs n dx dy) = true => (show stepL wd ht zs n dx dy = stepTo zs n dx dy from if_pos (HSTEP.out.trans hb)))
          have HSN := Lib.hid (fun hb : spotsB wd ht (stepTo zs n dx dy) = false => (show stepL wd ht zs n dx dy = zs from if_neg (by rw [HSTEP.out, hb]; simp)))
          go_wp2_with (fail)
          refine (cw (n : Int) _ _ _ h2 _).mono ?_
          rintro e w9 ⟨rfl, rfl⟩
          go_wp2_with (fail)
          refine (cw dx _ _ _ h3 _).mono ?_
          rintro e w9 ⟨rfl, rfl⟩
          go_wp2_with (fail)
          refine (cw dy _ _ _ h4 _).mono ?_
          rintro e w9 ⟨rfl, rfl⟩
          have s0 := o1.set0 hn (x0 + dx)
          have o2 := s0.1
          rw [hgd] at o2
          dsimp only at o2
          have hn2 : n < (zs.set n (x0 + dx, x1)).length := by simpa using hn
          obtain ⟨hc0, hc1, _⟩ := o1.cell hn
          have s1 := o2.set1 hn2 (x1 + dy)
          have hg2 : (zs.set n (x0 + dx, x1)).getD n (0, 0) = (x0 + dx, x1) := by rw [List.getD_eq_getElem?_getD, List.getElem?_set]; simp [hn]
          have hss : (zs.set n (x0 + dx, x1)).set n (x0 + dx, x1 + dy) = stepTo zs n dx dy := by rw [List.set_set, stepTo, Int.toNat_natCast, hgd]
          rw [hg2, hss] at s1
          have hB2 := o1.grown_below hb (Nat.le_refl _) s0.2
          have hB3 := o2.grown_below hB2 (Nat.le_refl _) s1.2
          have HS := Lib.hid (And.intro s1.1 hB3)
          rw [hgd] at hc0 hc1
          dsimp only at hc0 hc1
          have hf0 := hfz (n * 2)
          have hf1 := hfz (n * 2 + 1)
          clear s0 s1 o2 hB2 hB3 hgd hg2 hss hn2 o1 hfz
          go_wp2_with (fail)
          obtain ⟨W3, hW⟩ : ∃ W, W = (w2.setCell ⟨g, n * 2, none⟩ (.int .i64 (x0 + dx))).setCell ⟨g, n * 2 + 1, none⟩ (.int .i64 (x1 + dy)) := ⟨_, rfl⟩
          rw [← hW] at HS ⊢
          clear hW hc0 hc1 hf0 hf1 hb
          obtain ⟨o1, hb⟩ := HS.out
          clear HS
          have hrd5 : RdSpot W3 (.slice (some ⟨g, 0, none⟩) zs.length cap) (stepTo zs n dx dy) := o1.rd
          refine (implSpotsOk_any wd ht (stepTo zs n dx dy) _ _ hrd5).mono ?_
          rintro e w4 ⟨rfl, hd⟩
          replace o1 := o1.below hd
          replace hb := bvia hb hd
          clear hd
          clear hrd5
          cases h5 : spotsB wd ht (stepTo zs n dx dy) with
          | true =>
            have HK := Lib.hid (And.intro (HSTEP.out.trans h5) (HSL.out h5))
            go_wp2_with (fail)
            go_ret2
            exact ⟨_, ret_pairB' HK.out.1.symm, by rw [HK.out.2]; exact o1, hb⟩
          | false =>
            have HK := Lib.hid (And.intro (HSTEP.out.trans h5) (HSN.out h5))
            clear o1
            have hBx := hb.size
            have hB5 := below_alloc1 w4 (.cells #[] 50)
            have ho5 := OwSpot.empty w4 w4.heap.size (Nat.le_refl _)
            go_wp2_with (at_builtin; refine wpList_appSpot rfl (.tmp 65) (.tmp 66) rfl _ w4.heap.size _ [] rfl ho5 _ zs rfl ((h.below hb).alloc _) (by simp; omega) (by simp) ?_; intro v5 w5 o5 hgr5 _; simp only [List.nil_append] at o5; have hb5 := ho5.grown_below hB5 (Nat.le_refl _) hgr5)
            go_ret2
            exact ⟨_, ret_pairB' HK.out.1.symm, by rw [HK.out.2]; exact o5.base hb.size, bvia hb hb5⟩
set_option maxHeartbeats 1600000 in
theorem specWalk_any (wd ht : Int) (zs : List Sp) (k dx dy : Int) (hn : zs.length ≤ 1048576) (v : Value) (w : World) (h : RdSpot w v zs) :
    Calls Try.prog 27 #[.int .i64 wd, .int .i64 ht, v, .int .i64 k, .int .i64 dx, .int .i64 dy] w fun e w' => ∃ u, e = .returned (.tuple #[u, .bool (stepOk wd ht zs k dx dy)]) ∧ OwSpot w' w.heap.size u (stepL wd ht zs k dx dy) ∧ Below w.heap.size w w' := by
  have cw : ∀ (x lo hi : Int) (b : Bool), inB x lo hi = b → ∀ u, Calls Try.prog 41 #[.int .i64 x, .int .i64 lo, .int .i64 hi] u fun e w' => e = .returned (.bool b) ∧ u = w' := fun x lo hi b hb u => by have := l01In_any x lo hi u; rwa [hb] at this
  have hB1 := below_alloc1 w (.cells #[] 50)
  have ho := OwSpot.empty w w.heap.size (Nat.le_refl _)
  have hmx : zs.length ≤ 9223372036854775807 := by omega
  obtain ⟨az, capz, rfl⟩ := h.shape
  go_enter Try.func27, Try.ntmps27
  go_wp2_with (at_builtin; refine wpList_appSpot rfl (.tmp 15) (.tmp 16) rfl _ w.heap.size _ [] rfl ho _ zs rfl (h.alloc _) (by simp; omega) (by simp) ?_; intro v0 w1 o1 hgr0 _; simp only [List.nil_append] at o1; have hb := ho.grown_below hB1 (Nat.le_refl _) hgr0; clear hgr0 ho hB1)
  obtain ⟨A, cap, rfl, hcap, hmax, had⟩ := o1.form
  refine (specSpotsOk_b wd ht zs _ _ (h.below hb)).mono ?_
  rintro e w2 ⟨rfl, hd⟩
  replace o1 := o1.below hd
  replace hb := bvia hb hd
  clear hd
  cases h1 : spotsB wd ht zs with
  | false =>
    have hok : stepOk wd ht zs k dx dy = false := by simp [stepOk, stepIn, h1]
    have hp : stepL wd ht zs k dx dy = zs := if_neg (by simp [hok])
    have HK := Lib.hid (And.intro hok hp)
    clear hok hp
    go_wp2_with (fail)
    go_ret2
    exact ⟨_, ret_pairB' HK.out.1.symm, by rw [HK.out.2]; exact o1, hb⟩
  | true =>
    obtain ⟨hwb, hhb, hl7, _⟩ := spotsB_bd h1
    cases h2 : inB k 0 ((zs.length : Int) - 1) with
    | false =>
      have hok : stepOk wd ht zs k dx dy = false := by simp [stepOk, stepIn, h2]
      have hp : stepL wd ht zs k dx dy = zs := if_neg (by simp [hok])
      have HK := Lib.hid (And.intro hok hp)
      clear hok hp
      go_wp2_with (fail)
      refine (cw k _ _ _ h2 _).mono ?_
      rintro e w9 ⟨rfl, rfl⟩
      go_wp2_with (fail)
      go_ret2
      exact ⟨_, ret_pairB' HK.out.1.symm, by rw [HK.out.2]; exact o1, hb⟩
    | true =>
      cases h3 : inB dx (-1) 1 with
      | false =>
        have hok : stepOk wd ht zs k dx dy = false := by simp [stepOk, stepIn, h3]
        have hp : stepL wd ht zs k dx dy = zs := if_neg (by simp [hok])
        have HK := Lib.hid (And.intro hok hp)
        clear hok hp
        go_wp2_with (fail)
        refine (cw k _ _ _ h2 _).mono ?_
        rintro e w9 ⟨rfl, rfl⟩
        go_wp2_with (fail)
        refine (cw dx _ _ _ h3 _).mono ?_
        rintro e w9 ⟨rfl, rfl⟩
        go_wp2_with (fail)
        go_ret2
        exact ⟨_, ret_pairB' HK.out.1.symm, by rw [HK.out.2]; exact o1, hb⟩
      | true =>
        cases h4 : inB dy (-1) 1 with
        | false =>
          have hok : stepOk wd ht zs k dx dy = false := by simp [stepOk, stepIn, h4]
          have hp : stepL wd ht zs k dx dy = zs := if_neg (by simp [hok])
          have HK := Lib.hid (And.intro hok hp)
          clear hok hp
          go_wp2_with (fail)
          refine (cw k _ _ _ h2 _).mono ?_
          rintro e w9 ⟨rfl, rfl⟩
          go_wp2_with (fail)
          refine (cw dx _ _ _ h3 _).mono ?_
          rintro e w9 ⟨rfl, rfl⟩
          go_wp2_with (fail)
          refine (cw dy _ _ _ h4 _).mono ?_
          rintro e w9 ⟨rfl, rfl⟩
          go_wp2_with (fail)
          go_ret2
          exact ⟨_, ret_pairB' HK.out.1.symm, by rw [HK.out.2]; exact o1, hb⟩
        | true =>
          have hkb := inB_true.1 h2
          have hxb := inB_true.1 h3
          have hyb := inB_true.1 h4
          obtain ⟨n, rfl⟩ : ∃ n : Nat, k = n := ⟨k.toNat, by omega⟩
          have hn : n < zs.length := by omega
          obtain ⟨g, rfl, hg, hgw⟩ := had (by omega)
          obtain ⟨⟨x0, x1⟩, hx⟩ : ∃ x, zs[n]? = some x := ⟨_, List.getElem?_eq_getElem hn⟩
          have hgd : zs.getD n (0, 0) = (x0, x1) := by rw [List.getD_eq_getElem?_getD, hx]; rfl
          obtain ⟨x0l, x0h, x1l, x1h⟩ := spotsB_mem h1 (List.mem_of_getElem? hx)
          dsimp only at x0l x0h x1l x1h
          have hfz := (o1.cell hn).2.2
          have HLN := Lib.hid (stepTo_length zs n dx dy)
          obtain ⟨az2, capz2, blz, offz, hvz, _, _, hadz, hcz⟩ := (h.below hb).open
          simp only [Value.slice.injEq] at hvz
          obtain ⟨rfl, _, rfl⟩ := hvz
          have hazz := hadz (by omega)
          have hsrc := hcz n hn
          rw [hgd] at hsrc
          dsimp only at hsrc
          subst hazz
          clear hcz hadz hx
          have HSTEP : Hid (stepOk wd ht zs n dx dy = spotsB wd ht (stepTo zs n dx dy)) := by show _ = _; simp [stepOk, stepIn, h1, h2, h3, h4]
          have HSL := Lib.hid (fun hb : spotsB wd ht (stepTo zs n dx dy) = true => (show stepL wd ht zs n dx dy = stepTo zs n dx dy from if_pos (HSTEP.out.trans hb)))
          have HSN := Lib.hid (fun hb : spotsB wd ht (stepTo zs n dx dy) = false => (show stepL wd ht zs n dx dy = zs from if_neg (by rw [HSTEP.out, hb]; simp)))
          go_wp2_with (fail)
          refine (cw (n : Int) _ _ _ h2 _).mono ?_
          rintro e w9 ⟨rfl, rfl⟩
          go_wp2_with (fail)
          refine (cw dx _ _ _ h3 _).mono ?_
          rintro e w9 ⟨rfl, rfl⟩
          go_wp2_with (fail)
          refine (cw dy _ _ _ h4 _).mono ?_
          rintro e w9 ⟨rfl, rfl⟩
          have s1 := o1.put hn (x0 + dx, x1 + dy)
          have hss : zs.set n (x0 + dx, x1 + dy) = stepTo zs n dx dy := by rw [stepTo, Int.toNat_natCast, hgd]
          rw [hss] at s1
          dsimp only at s1
          have hB3 := o1.grown_below hb (Nat.le_refl _) s1.2
          have HS := Lib.hid (And.intro s1.1.drew hB3.drew)
          obtain ⟨hc0, hc1, _⟩ := o1.cell hn
          have hf0 := hfz (n * 2)
          have hf1 := hfz (n * 2 + 1)
          have hs0 := hsrc.1
          have hs1 := hsrc.2
          have q1 : (n : Int) < (zs.length : Int) := by omega
          clear s1 hB3 hgd hss o1 hfz
          go_wp2_with (fail)
          go_still_tail 18, (by kernel_rfl)
          go_wp2_with (fail)
          obtain ⟨W3, hW⟩ : ∃ W, W = ((w2.setCell ⟨g, n * 2, none⟩ (.int .i64 (x0 + dx))).setCell ⟨g, n * 2 + 1, none⟩ (.int .i64 (x1 + dy))).drew := ⟨_, rfl⟩
          rw [← hW] at HS ⊢
          clear hW hc0 hc1 hf0 hf1 hb hs0 hs1
          obtain ⟨o1, hb⟩ := HS.out
          clear HS
          have hrd5 : RdSpot W3 (.slice (some ⟨g, 0, none⟩) zs.length cap) (stepTo zs n dx dy) := o1.rd
          refine (specSpotsOk_b wd ht (stepTo zs n dx dy) _ _ hrd5).mono ?_
          rintro e w4 ⟨rfl, hd⟩
          replace o1 := o1.below hd
          replace hb := bvia hb hd
          clear hd
          clear hrd5
          cases h5 : spotsB wd ht (stepTo zs n dx dy) with
          | true =>
            have HK := Lib.hid (And.intro (HSTEP.out.trans h5) (HSL.out h5))
            go_wp2_with (fail)
            go_ret2
            exact ⟨_, ret_pairB' HK.out.1.symm, by rw [HK.out.2]; exact o1, hb⟩
          | false =>
            have HK := Lib.hid (And.intro (HSTEP.out.trans h5) (HSN.out h5))
            clear o1
            have hBx := hb.size
            have hB5 := below_alloc1 w4 (.cells #[] 50)
            have ho5 := OwSpot.empty w4 w4.heap.size (Nat.le_refl _)
            go_wp2_with (at_builtin; refine wpList_appSpot rfl (.tmp 65) (.tmp 66) rfl _ w4.heap.size _ [] rfl ho5 _ zs rfl ((h.below hb).alloc _) (by simp; omega) (by simp) ?_; intro v5 w5 o5 hgr5 _; simp only [List.nil_append] at o5; have hb5 := ho5.grown_below hB5 (Nat.le_refl _) hgr5)
            go_ret2
            exact ⟨_, ret_pairB' HK.out.1.symm, by rw [HK.out.2]; exact o5.base hb.size, bvia hb hb5⟩
theorem walkFnExactWalk (wd : Int) (ht : Int) (zs : List (Int × Int)) (k : Int) (dx : Int) (dy : Int) (vzs : Value) (w : World) (hzs : RdSpot w vzs zs) : Calls Try.prog 6 #[.int .i64 wd, .int .i64 ht, vzs, .int .i64 k, .int .i64 dx, .int .i64 dy] w fun e w' => e = .returned (.bool true) ∧ Below w.heap.size w w' := by
  have hmxzs : zs.length ≤ 9223372036854775807 := by obtain ⟨_, _, _, _, _, h1, h2, _⟩ := hzs.open; omega
  obtain ⟨azs, capzs, rfl⟩ := hzs.shape
  by_cases hlzs : zs.length ≤ 1048576
  · skip
    have hB := Below.refl w.heap.size w
    have hyl : (stepL wd ht zs k dx dy).length ≤ 1048577 := by rw [stepL_length]; omega
    go_enter Try.func6, Try.ntmps6
    go_wp2_with (fail)
    refine (szSpotS_ok _ _ _ _ (by omega) (by omega) _).mono ?_
    rintro e w' ⟨rfl, rfl⟩
    go_wp2_with (fail)
    refine (toSpotS_any zs (by omega) _ _ (hzs.below hB)).mono ?_
    rintro e w1 ⟨ut0, rfl, ot0, hb⟩
    have bt0 := hB.size
    replace hB := bvia hB hb
    clear hb
    go_wp2_with (fail)
    refine (specWalk_any wd ht zs k dx dy hlzs _ _ ot0.rd).mono ?_
    rintro e w2 ⟨uw, rfl, ow, hb⟩
    have dt0_w := dis_of ot0.lt ow.lt (Nat.le_refl _)
    have dw_t0 := dis_of' ot0.lt ow.lt (Nat.le_refl _)
    have bw := hB.size
    replace ot0 := ot0.below hb
    replace hB := bvia hB hb
    clear hb
    clear ot0
    go_wp2_with (fail)
    refine (toSpotS_any zs (by omega) _ _ (hzs.below hB)).mono ?_
    rintro e w3 ⟨ux0, rfl, ox0, hb⟩
    have dw_x0 := dis_of ow.lt ox0.lt (Nat.le_refl _)
    have dx0_w := dis_of' ow.lt ox0.lt (Nat.le_refl _)
    have bx0 := hB.size
    replace ow := ow.below hb
    replace hB := bvia hB hb
    clear hb
    go_wp2_with (fail)
    refine (implWalk_any wd ht zs k dx dy hlzs _ _ ox0.rd).mono ?_
    rintro e w4 ⟨ug, rfl, og, hb⟩
    have dw_g := dis_of ow.lt og.lt (Nat.le_refl _)
    have dg_w := dis_of' ow.lt og.lt (Nat.le_refl _)
    have dx0_g := dis_of ox0.lt og.lt (Nat.le_refl _)
    have dg_x0 := dis_of' ox0.lt og.lt (Nat.le_refl _)
    have bg := hB.size
    replace ow := ow.below hb
    replace ox0 := ox0.below hb
    replace hB := bvia hB hb
    clear hb
    go_wp2_with (fail)
    refine (eqSpotS_any (stepL wd ht zs k dx dy) _ _ _ og.rd ow.rd).mono ?_
    rintro e w5 ⟨rfl, hb⟩
    replace ow := ow.below hb
    replace ox0 := ox0.below hb
    replace og := og.below hb
    replace hB := bvia hB hb
    clear hb
    go_wp2_with (fail)
    refine (toSpotS_any zs (by omega) _ _ (hzs.below hB)).mono ?_
    rintro e w6 ⟨uy0, rfl, oy0, hb⟩
    have dw_y0 := dis_of ow.lt oy0.lt (Nat.le_refl _)
    have dy0_w := dis_of' ow.lt oy0.lt (Nat.le_refl _)
    have dx0_y0 := dis_of ox0.lt oy0.lt (Nat.le_refl _)
    have dy0_x0 := dis_of' ox0.lt oy0.lt (Nat.le_refl _)
    have dg_y0 := dis_of og.lt oy0.lt (Nat.le_refl _)
    have dy0_g := dis_of' og.lt oy0.lt (Nat.le_refl _)
    have by0 := hB.size
    replace ow := ow.below hb
    replace ox0 := ox0.below hb
    replace og := og.below hb
    replace hB := bvia hB hb
    clear hb
    go_wp2_with (fail)
    refine (eqSpotS_any zs _ _ _ ox0.rd oy0.rd).mono ?_
    rintro e w7 ⟨rfl, hb⟩
    replace ow := ow.below hb
    replace ox0 := ox0.below hb
    replace og := og.below hb
    replace oy0 := oy0.below hb
    replace hB := bvia hB hb
    clear hb
    clear oy0
    go_wp2_with (fail)
    refine (markSpotS_any zs _ (by omega) (by omega) _ _ _ ox0).mono ?_
    rintro e w8 ⟨rfl, om, hg⟩
    replace ow := ow.kept hg dw_x0
    replace og := og.kept hg dg_x0
    replace hB := ox0.grown_below hB bx0 hg
    clear hg ox0
    have ox0 := om
    clear om
    go_wp2_with (fail)
    refine (eqSpotS_any (stepL wd ht zs k dx dy) _ _ _ og.rd ow.rd).mono ?_
    rintro e w9 ⟨rfl, hb⟩
    replace ow := ow.below hb
    replace ox0 := ox0.below hb
    replace og := og.below hb
    replace hB := bvia hB hb
    clear hb
    clear ox0
    go_wp2_with (fail)
    refine (markSpotS_any (stepL wd ht zs k dx dy) _ (by omega) (by omega) _ _ _ og).mono ?_
    rintro e w10 ⟨rfl, om, hg⟩
    replace ow := ow.kept hg dw_g
    replace hB := og.grown_below hB bg hg
    clear hg og
    have og := om
    clear om
    go_wp2_with (fail)
    refine (heldSpotS_any (stepL wd ht zs k dx dy).length 1 (by omega) (by omega) _ _ og.rd).mono ?_
    rintro e w11 ⟨rfl, rfl⟩
    go_wp2_with (fail)
    refine (toSpotS_any zs (by omega) _ _ (hzs.below hB)).mono ?_
    rintro e w12 ⟨us0, rfl, os0, hb⟩
    have dw_s0 := dis_of ow.lt os0.lt (Nat.le_refl _)
    have ds0_w := dis_of' ow.lt os0.lt (Nat.le_refl _)
    have dg_s0 := dis_of og.lt os0.lt (Nat.le_refl _)
    have ds0_g := dis_of' og.lt os0.lt (Nat.le_refl _)
    have bs0 := hB.size
    replace ow := ow.below hb
    replace og := og.below hb
    replace hB := bvia hB hb
    clear hb
    go_wp2_with (fail)
    refine (implWalk_any wd ht zs k dx dy hlzs _ _ os0.rd).mono ?_
    rintro e w13 ⟨uh, rfl, oh, hb⟩
    have dw_h := dis_of ow.lt oh.lt (Nat.le_refl _)
    have dh_w := dis_of' ow.lt oh.lt (Nat.le_refl _)
    have dg_h := dis_of og.lt oh.lt (Nat.le_refl _)
    have dh_g := dis_of' og.lt oh.lt (Nat.le_refl _)
    have ds0_h := dis_of os0.lt oh.lt (Nat.le_refl _)
    have dh_s0 := dis_of' os0.lt oh.lt (Nat.le_refl _)
    have bh := hB.size
    replace ow := ow.below hb
    replace og := og.below hb
    replace os0 := os0.below hb
    replace hB := bvia hB hb
    clear hb
    clear os0
    go_wp2_with (fail)
    refine (eqSpotS_any (stepL wd ht zs k dx dy) _ _ _ oh.rd ow.rd).mono ?_
    rintro e w14 ⟨rfl, hb⟩
    replace ow := ow.below hb
    replace og := og.below hb
    replace oh := oh.below hb
    replace hB := bvia hB hb
    clear hb
    go_wp2_with (fail)
    refine (heldSpotS_any (stepL wd ht zs k dx dy).length 1 (by omega) (by omega) _ _ og.rd).mono ?_
    rintro e w15 ⟨rfl, rfl⟩
    go_wp2_with (fail)
    go_returns
    exact ⟨rfl, hB⟩
  · go_enter Try.func6, Try.ntmps6
    go_wp2_with (fail)
    refine (szSpotS_no _ _ _ (by have := hmxzs; omega) _ (by omega) (by omega) (by omega) _).mono ?_
    rintro e w' ⟨rfl, rfl⟩
    go_wp2_with (fail)
    go_returns
    exact ⟨rfl, Below.refl _ _⟩
end Go.Proofs.Ytcpkbohopicabaa
