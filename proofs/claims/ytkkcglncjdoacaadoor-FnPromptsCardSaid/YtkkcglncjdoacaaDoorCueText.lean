/- The walks of CueText: ticks, what it waits for, its puppets. -/
import Derived.Test.YtkkcglncjdoacaaDoorNums
import Derived.Test.YtkkcglncjdoacaaDoorStrict
import Derived.Test.YtkkcglncjdoacaaDoorCueH
import Derived.Test.YtkkcglncjdoacaaDoorRg2
namespace Go.Proofs.YtkkcglncjdoacaaDoor
open Go.ChangeShapes Go.WideShapes Go.ChangeAt Go.RowKit Go.Joins Go.Deep Go.Sort
set_option linter.unusedSimpArgs false
set_option linter.unusedVariables false
set_option maxRecDepth 20000

def cueOk (t : Int) (a p : List Int) : Bool := inB t 1 50 && risesB a 0 11 && risesB p 0 6
def cueL (t : Int) (a p : List Int) : List UInt8 := if cueOk t a p = true then Lib.itoa t ++ [47] ++ numsL a ++ [47] ++ numsL p else []
theorem cueL_no {t : Int} {a p : List Int} (h : cueOk t a p = false) : cueL t a p = [] := if_neg (by simp [h])
theorem rises_bd {zs : List Int} {b : Int} (hb : b ≤ 9223372036854775807) (h : risesB zs 0 b = true) : ∀ z ∈ zs, -9223372036854775808 ≤ z ∧ z ≤ 9223372036854775807 := by
  intro z hz
  unfold risesB at h
  rw [Bool.and_eq_true] at h
  have := allB_mem h.2 z hz
  omega
theorem numsL_small {zs : List Int} (hz : ∀ z ∈ zs, -9223372036854775808 ≤ z ∧ z ≤ 9223372036854775807) : (numsL zs).length ≤ 140737488355328 := by
  by_cases h : numsOk zs = true
  · have h2 := h
    unfold numsOk at h2
    rw [Bool.and_eq_true] at h2
    have hl := of_decide_eq_true h2.1
    have h0 : ∀ z ∈ zs, 0 ≤ z := fun z hzm => of_decide_eq_true (List.all_eq_true.1 h2.2 z hzm)
    rw [numsL_ok hl h0]
    exact join_small hl h0 hz
  · unfold numsL
    rw [if_neg h]
    simp
theorem specCueText_any (t : Int) (a p : List Int) (u1 u2 : Value) (w : World) (h1 : RdI w u1 a) (h2 : RdI w u2 p) (ht : Pow10 w) :
    Calls Tryd.prog 15 #[.agg #[.int .i64 t, u1, u2]] w fun e w' => e = .returned (.string ⟨(cueL t a p).toArray⟩) ∧ Below w.heap.size w w' := by
  obtain ⟨a1, c1, rfl⟩ := h1.shape
  obtain ⟨a2, c2, rfl⟩ := h2.shape
  have hB := below_alloc1 w (.cells #[.int .i64 t, .slice a1 a.length c1, .slice a2 p.length c2] 31)
  obtain ⟨k0, k1, k2⟩ : (w.alloc (.cells #[.int .i64 t, .slice a1 a.length c1, .slice a2 p.length c2] 31)).cell? ⟨w.heap.size, 0, none⟩ = some (.int .i64 t) ∧ (w.alloc (.cells #[.int .i64 t, .slice a1 a.length c1, .slice a2 p.length c2] 31)).cell? ⟨w.heap.size, 1, none⟩ = some (.slice a1 a.length c1) ∧ (w.alloc (.cells #[.int .i64 t, .slice a1 a.length c1, .slice a2 p.length c2] 31)).cell? ⟨w.heap.size, 2, none⟩ = some (.slice a2 p.length c2) := by refine ⟨?_, ?_, ?_⟩ <;> simp [go_sem]
  have HS := Lib.hid (And.intro hB (And.intro k0 (And.intro k1 k2)))
  have HT := Lib.hid ht
  clear hB k0 k1 k2 ht
  go_enter Tryd.func15, Tryd.ntmps15
  go_wp2_with (fail)
  generalize w.alloc (.cells #[.int .i64 t, .slice a1 a.length c1, .slice a2 p.length c2] 31) = w1 at HS ⊢
  obtain ⟨hB, k0, k1, k2⟩ := HS.out
  clear HS
  have cw := Lib.hid (l01In_any t 1 50)
  cases h5 : inB t 1 50 with
  | false =>
    have HE := Lib.hid (show cueL t a p = [] from cueL_no (by simp [cueOk, h5]))
    rw [h5] at cw
    refine (cw.out _).mono ?_
    rintro e w2 ⟨rfl, rfl⟩
    go_wp2_with (fail)
    go_ret
    exact ⟨ret_str (by rw [HE.out]), hB⟩
  | true =>
    have ht50 := inB_true.1 h5
    rw [h5] at cw
    refine (cw.out _).mono ?_
    rintro e w2 ⟨rfl, rfl⟩
    clear cw
    go_wp2_with (fail)
    refine (l11Rising_any a 11 _ _ (h1.below hB)).mono ?_
    rintro e w3 ⟨rfl, hd⟩
    replace hB := bvia hB hd.below
    replace k0 := hd.cell k0
    replace k1 := hd.cell k1
    replace k2 := hd.cell k2
    clear hd
    cases h6 : risesB a 0 11 with
    | false =>
      have HE := Lib.hid (show cueL t a p = [] from cueL_no (by simp [cueOk, h6]))
      go_wp2_with (fail)
      go_ret
      exact ⟨ret_str (by rw [HE.out]), hB⟩
    | true =>
      go_wp2_with (fail)
      refine (l11Rising_any p 6 _ _ (h2.below hB)).mono ?_
      rintro e w4 ⟨rfl, hd⟩
      replace hB := bvia hB hd.below
      replace k0 := hd.cell k0
      replace k1 := hd.cell k1
      replace k2 := hd.cell k2
      clear hd
      cases h7 : risesB p 0 6 with
      | false =>
        have HE := Lib.hid (show cueL t a p = [] from cueL_no (by simp [cueOk, h7]))
        go_wp2_with (fail)
        go_ret
        exact ⟨ret_str (by rw [HE.out]), hB⟩
      | true =>
        have hza := rises_bd (by omega) h6
        have hzp := rises_bd (by omega) h7
        have hsa := numsL_small hza
        have hsp := numsL_small hzp
        have hst := Lib.itoa_length_le t (by omega) (by omega)
        have hV : cueL t a p = Lib.itoa t ++ [47] ++ numsL a ++ [47] ++ numsL p := if_pos (by simp [cueOk, h5, h6, h7])
        have HF : Hid (∀ w', Calls Tryd.prog 39 #[.int .i64 t] w' fun e w2 => e = .returned (.string ⟨(Lib.itoa t).toArray⟩) ∧ Below w'.heap.size w' w2) := fun w' => by
          have h := specFormatInt_any t.toNat (by omega) w'
          rw [show ((t.toNat : Nat) : Int) = t by omega] at h
          exact h
        have HA := Lib.hid (fun v' w' h => specNumbersText_any a hza v' w' h)
        have HP := Lib.hid (fun v' w' h => specNumbersText_any p hzp v' w' h)
        obtain ⟨ft, hft⟩ : ∃ f : ByteArray, (⟨(Lib.itoa t).toArray⟩ : ByteArray) = f := ⟨_, rfl⟩
        obtain ⟨fa, hfa⟩ : ∃ f : ByteArray, (⟨(numsL a).toArray⟩ : ByteArray) = f := ⟨_, rfl⟩
        obtain ⟨fp, hfp⟩ : ∃ f : ByteArray, (⟨(numsL p).toArray⟩ : ByteArray) = f := ⟨_, rfl⟩
        have et : ft.data.toList = Lib.itoa t := by rw [← hft]
        have ea : fa.data.toList = numsL a := by rw [← hfa]
        have ep : fp.data.toList = numsL p := by rw [← hfp]
        have zt : ft.size ≤ 21 := by rw [Lib.size_eq, et]; exact hst
        have za : fa.size ≤ 140737488355328 := by rw [Lib.size_eq, ea]; exact hsa
        have zp : fp.size ≤ 140737488355328 := by rw [Lib.size_eq, ep]; exact hsp
        rw [hft] at HF
        rw [hfa] at HA
        rw [hfp] at HP
        have HV : Hid ((ft ++ ⟨#[47]⟩) ++ fa ++ ⟨#[47]⟩ ++ fp = ⟨(cueL t a p).toArray⟩) := str_of (by rw [data_add, data_add, data_add, data_add, et, ea, ep, hV])
        clear hft hfa hfp et ea ep hV hsa hsp hst
        have l1 : ¬ 9223372036854775807 < ft.size + 1 := by omega
        have l2 : ¬ 9223372036854775807 < ft.size + 1 + fa.size := by omega
        have l3 : ¬ 9223372036854775807 < ft.size + 1 + fa.size + 1 := by omega
        have l4 : ¬ 9223372036854775807 < ft.size + 1 + fa.size + 1 + fp.size := by omega
        go_wp2_with (fail)
        replace hB := hB.drew
        with_reducible refine region_beg (n := 14) (S := (fun w' => w'.cell? ⟨w.heap.size, 0, none⟩ = some (.int .i64 t) ∧ w'.cell? ⟨w.heap.size, 1, none⟩ = some (.slice a1 a.length c1) ∧ w'.cell? ⟨w.heap.size, 2, none⟩ = some (.slice a2 p.length c2))) ?b1_u1 ?b2_u1 ?b3_u1 (fun hHeld => ?b4_u1)
        case b1_u1 => kernel_rfl
        case b2_u1 => kernel_rfl
        case b3_u1 => (try dsimp only); exact ⟨k0, k1, k2⟩
        with_reducible refine takeI2 (i := 0) (v := ?sv_u2) (oi := ?s0_u2) (by simp only [List.getElem?_toArray, List.getElem?_cons_succ, List.getElem?_cons_zero]; exact rfl) ?s1_u2 ?s2_u2 ?s3_u2 ?s4_u2 ?s5_u2 ?s6_u2 ?s7_u2
        case s1_u2 => kernel_rfl
        case s2_u2 => kernel_rfl
        case s3_u2 => kernel_rfl
        case s4_u2 => exact fun _ _ _ h => h
        case s5_u2 => exact Or.inl ⟨rfl, by intro w hSw; (try dsimp only at hSw); go_simp; try with_reducible rfl⟩
        case s6_u2 => assumption
        try simp only [Act.put, List.setIfInBounds_toArray, List.set_cons_zero, List.set_cons_succ]
        with_reducible refine takeI2 (i := 1) (v := ?sv_u3) (oi := ?s0_u3) (by simp only [List.getElem?_toArray, List.getElem?_cons_succ, List.getElem?_cons_zero]; exact rfl) ?s1_u3 ?s2_u3 ?s3_u3 ?s4_u3 ?s5_u3 ?s6_u3 ?s7_u3
        case s1_u3 => kernel_rfl
        case s2_u3 => kernel_rfl
        case s3_u3 => kernel_rfl
        case s4_u3 => exact fun _ _ _ h => h
        case s5_u3 => exact Or.inl ⟨rfl, by intro w hSw; (try dsimp only at hSw); go_simp; try with_reducible rfl⟩
        case s6_u3 => assumption
        try simp only [Act.put, List.setIfInBounds_toArray, List.set_cons_zero, List.set_cons_succ]
        with_reducible refine takeI2 (i := 4) (v := ?sv_u4) (oi := ?s0_u4) (by simp only [List.getElem?_toArray, List.getElem?_cons_succ, List.getElem?_cons_zero]; exact rfl) ?s1_u4 ?s2_u4 ?s3_u4 ?s4_u4 ?s5_u4 ?s6_u4 ?s7_u4
        case s1_u4 => kernel_rfl
        case s2_u4 => kernel_rfl
        case s3_u4 => kernel_rfl
        case s4_u4 => exact fun _ _ _ h => h
        case s5_u4 => exact Or.inl ⟨rfl, by intro w hSw; (try dsimp only at hSw); go_simp; try with_reducible rfl⟩
        case s6_u4 => assumption
        try simp only [Act.put, List.setIfInBounds_toArray, List.set_cons_zero, List.set_cons_succ]
        with_reducible refine takeI2 (i := 5) (v := ?sv_u5) (oi := ?s0_u5) (by simp only [List.getElem?_toArray, List.getElem?_cons_succ, List.getElem?_cons_zero]; exact rfl) ?s1_u5 ?s2_u5 ?s3_u5 ?s4_u5 ?s5_u5 ?s6_u5 ?s7_u5
        case s1_u5 => kernel_rfl
        case s2_u5 => kernel_rfl
        case s3_u5 => kernel_rfl
        case s4_u5 => exact fun _ _ _ h => h
        case s5_u5 => exact Or.inl ⟨rfl, by intro w hSw; (try dsimp only at hSw); go_simp; try with_reducible rfl⟩
        case s6_u5 => assumption
        try simp only [Act.put, List.setIfInBounds_toArray, List.set_cons_zero, List.set_cons_succ]
        with_reducible refine takeI2 (i := 9) (v := ?sv_u6) (oi := ?s0_u6) (by simp only [List.getElem?_toArray, List.getElem?_cons_succ, List.getElem?_cons_zero]; exact rfl) ?s1_u6 ?s2_u6 ?s3_u6 ?s4_u6 ?s5_u6 ?s6_u6 ?s7_u6
        case s1_u6 => kernel_rfl
        case s2_u6 => kernel_rfl
        case s3_u6 => kernel_rfl
        case s4_u6 => exact fun _ _ _ h => h
        case s5_u6 => exact Or.inl ⟨rfl, by intro w hSw; (try dsimp only at hSw); go_simp; try with_reducible rfl⟩
        case s6_u6 => assumption
        try simp only [Act.put, List.setIfInBounds_toArray, List.set_cons_zero, List.set_cons_succ]
        with_reducible refine takeI2 (i := 10) (v := ?sv_u7) (oi := ?s0_u7) (by simp only [List.getElem?_toArray, List.getElem?_cons_succ, List.getElem?_cons_zero]; exact rfl) ?s1_u7 ?s2_u7 ?s3_u7 ?s4_u7 ?s5_u7 ?s6_u7 ?s7_u7
        case s1_u7 => kernel_rfl
        case s2_u7 => kernel_rfl
        case s3_u7 => kernel_rfl
        case s4_u7 => exact fun _ _ _ h => h
        case s5_u7 => exact Or.inl ⟨rfl, by intro w hSw; (try dsimp only at hSw); go_simp; try with_reducible rfl⟩
        case s6_u7 => assumption
        try simp only [Act.put, List.setIfInBounds_toArray, List.set_cons_zero, List.set_cons_succ]
        with_reducible refine wpAnyH_ready (rs := [2]) ?s1_u8 one_ne ?s2_u8
        case s1_u8 => kernel_rfl
        with_reducible refine AllReadyH.cons (o := ?s0_u8) (by simp only [List.getElem?_toArray, List.getElem?_cons_succ, List.getElem?_cons_zero]; exact rfl) (fun K hK => ?s3_u8) AllReadyH.nil
        go_simp
        refine (HF.out _).mono ?_
        rintro e w5 ⟨rfl, hb⟩
        replace hB := bvia hB hb
        replace k0 := cell_on hb k0
        replace k1 := cell_on hb k1
        replace k2 := cell_on hb k2
        clear hb
        go_wp2_with fail
        with_reducible refine hK.out _ _ ?s1_u9 (fun hHeld => ?s2_u9)
        case s1_u9 => (try dsimp only); exact ⟨k0, k1, k2⟩
        clear hK K
        try simp only [Act.put, List.setIfInBounds_toArray, List.set_cons_zero, List.set_cons_succ]
        with_reducible refine takeI2 (i := 3) (v := ?sv_u10) (oi := ?s0_u10) (by simp only [List.getElem?_toArray, List.getElem?_cons_succ, List.getElem?_cons_zero]; exact rfl) ?s1_u10 ?s2_u10 ?s3_u10 ?s4_u10 ?s5_u10 ?s6_u10 ?s7_u10
        case s1_u10 => kernel_rfl
        case s2_u10 => kernel_rfl
        case s3_u10 => kernel_rfl
        case s4_u10 => exact fun _ _ _ h => h
        case s5_u10 => exact Or.inl ⟨rfl, by intro w hSw; (try dsimp only at hSw); go_simp; try with_reducible rfl⟩
        case s6_u10 => assumption
        try simp only [Act.put, List.setIfInBounds_toArray, List.set_cons_zero, List.set_cons_succ]
        with_reducible refine wpAnyH_ready (rs := [6]) ?s1_u11 one_ne ?s2_u11
        case s1_u11 => kernel_rfl
        with_reducible refine AllReadyH.cons (o := ?s0_u11) (by simp only [List.getElem?_toArray, List.getElem?_cons_succ, List.getElem?_cons_zero]; exact rfl) (fun K hK => ?s3_u11) AllReadyH.nil
        go_simp
        refine (HA.out _ _ (h1.below hB)).mono ?_
        rintro e w6 ⟨rfl, hb⟩
        replace hB := bvia hB hb
        replace k0 := cell_on hb k0
        replace k1 := cell_on hb k1
        replace k2 := cell_on hb k2
        clear hb
        go_wp2_with fail
        with_reducible refine hK.out _ _ ?s1_u12 (fun hHeld => ?s2_u12)
        case s1_u12 => (try dsimp only); exact ⟨k0, k1, k2⟩
        clear hK K
        try simp only [Act.put, List.setIfInBounds_toArray, List.set_cons_zero, List.set_cons_succ]
        with_reducible refine takeI2 (i := 7) (v := ?sv_u13) (oi := ?s0_u13) (by simp only [List.getElem?_toArray, List.getElem?_cons_succ, List.getElem?_cons_zero]; exact rfl) ?s1_u13 ?s2_u13 ?s3_u13 ?s4_u13 ?s5_u13 ?s6_u13 ?s7_u13
        case s1_u13 => kernel_rfl
        case s2_u13 => kernel_rfl
        case s3_u13 => kernel_rfl
        case s4_u13 => exact fun _ _ _ h => h
        case s5_u13 => exact Or.inl ⟨rfl, by intro w hSw; (try dsimp only at hSw); go_simp; try with_reducible rfl⟩
        case s6_u13 => assumption
        try simp only [Act.put, List.setIfInBounds_toArray, List.set_cons_zero, List.set_cons_succ]
        with_reducible refine takeI2 (i := 8) (v := ?sv_u14) (oi := ?s0_u14) (by simp only [List.getElem?_toArray, List.getElem?_cons_succ, List.getElem?_cons_zero]; exact rfl) ?s1_u14 ?s2_u14 ?s3_u14 ?s4_u14 ?s5_u14 ?s6_u14 ?s7_u14
        case s1_u14 => kernel_rfl
        case s2_u14 => kernel_rfl
        case s3_u14 => kernel_rfl
        case s4_u14 => exact fun _ _ _ h => h
        case s5_u14 => exact Or.inl ⟨rfl, by intro w hSw; (try dsimp only at hSw); go_simp; try with_reducible rfl⟩
        case s6_u14 => assumption
        try simp only [Act.put, List.setIfInBounds_toArray, List.set_cons_zero, List.set_cons_succ]
        with_reducible refine wpAnyH_ready (rs := [11]) ?s1_u15 one_ne ?s2_u15
        case s1_u15 => kernel_rfl
        with_reducible refine AllReadyH.cons (o := ?s0_u15) (by simp only [List.getElem?_toArray, List.getElem?_cons_succ, List.getElem?_cons_zero]; exact rfl) (fun K hK => ?s3_u15) AllReadyH.nil
        go_simp
        refine (HP.out _ _ (h2.below hB)).mono ?_
        rintro e w7 ⟨rfl, hb⟩
        replace hB := bvia hB hb
        replace k0 := cell_on hb k0
        replace k1 := cell_on hb k1
        replace k2 := cell_on hb k2
        clear hb
        go_wp2_with fail
        with_reducible refine hK.out _ _ ?s1_u16 (fun hHeld => ?s2_u16)
        case s1_u16 => (try dsimp only); exact ⟨k0, k1, k2⟩
        clear hK K
        try simp only [Act.put, List.setIfInBounds_toArray, List.set_cons_zero, List.set_cons_succ]
        with_reducible refine takeI2 (i := 12) (v := ?sv_u17) (oi := ?s0_u17) (by simp only [List.getElem?_toArray, List.getElem?_cons_succ, List.getElem?_cons_zero]; exact rfl) ?s1_u17 ?s2_u17 ?s3_u17 ?s4_u17 ?s5_u17 ?s6_u17 ?s7_u17
        case s1_u17 => kernel_rfl
        case s2_u17 => kernel_rfl
        case s3_u17 => kernel_rfl
        case s4_u17 => exact fun _ _ _ h => h
        case s5_u17 => exact Or.inl ⟨rfl, by intro w hSw; (try dsimp only at hSw); go_simp; try with_reducible rfl⟩
        case s6_u17 => assumption
        try simp only [Act.put, List.setIfInBounds_toArray, List.set_cons_zero, List.set_cons_succ]
        with_reducible refine takeI2 (i := 13) (v := ?sv_u18) (oi := ?s0_u18) (by simp only [List.getElem?_toArray, List.getElem?_cons_succ, List.getElem?_cons_zero]; exact rfl) ?s1_u18 ?s2_u18 ?s3_u18 ?s4_u18 ?s5_u18 ?s6_u18 ?s7_u18
        case s1_u18 => kernel_rfl
        case s2_u18 => kernel_rfl
        case s3_u18 => kernel_rfl
        case s4_u18 => exact fun _ _ _ h => h
        case s5_u18 => exact Or.inl ⟨rfl, by intro w hSw; (try dsimp only at hSw); go_simp; try with_reducible rfl⟩
        case s6_u18 => assumption
        try simp only [Act.put, List.setIfInBounds_toArray, List.set_cons_zero, List.set_cons_succ]
        with_reducible refine wpAnyH_done ?s1_u19 ?s2_u19 _
        case s1_u19 => kernel_rfl
        go_wp2_with (fail)
        go_ret
        exact ⟨ret_str HV.out, hB⟩
theorem implCueText_any (t : Int) (a p : List Int) (u1 u2 : Value) (w : World) (h1 : RdI w u1 a) (h2 : RdI w u2 p) (ht : Pow10 w) :
    Calls Tryd.prog 17 #[.agg #[.int .i64 t, u1, u2]] w fun e w' => e = .returned (.string ⟨(cueL t a p).toArray⟩) ∧ Below w.heap.size w w' := by
  obtain ⟨a1, c1, rfl⟩ := h1.shape
  obtain ⟨a2, c2, rfl⟩ := h2.shape
  have hB := below_alloc1 w (.cells #[.int .i64 t, .slice a1 a.length c1, .slice a2 p.length c2] 31)
  obtain ⟨k0, k1, k2⟩ : (w.alloc (.cells #[.int .i64 t, .slice a1 a.length c1, .slice a2 p.length c2] 31)).cell? ⟨w.heap.size, 0, none⟩ = some (.int .i64 t) ∧ (w.alloc (.cells #[.int .i64 t, .slice a1 a.length c1, .slice a2 p.length c2] 31)).cell? ⟨w.heap.size, 1, none⟩ = some (.slice a1 a.length c1) ∧ (w.alloc (.cells #[.int .i64 t, .slice a1 a.length c1, .slice a2 p.length c2] 31)).cell? ⟨w.heap.size, 2, none⟩ = some (.slice a2 p.length c2) := by refine ⟨?_, ?_, ?_⟩ <;> simp [go_sem]
  have HS := Lib.hid (And.intro hB (And.intro k0 (And.intro k1 k2)))
  have HT := Lib.hid ht
  clear hB k0 k1 k2 ht
  go_enter Tryd.func17, Tryd.ntmps17
  go_wp2_with (fail)
  generalize w.alloc (.cells #[.int .i64 t, .slice a1 a.length c1, .slice a2 p.length c2] 31) = w1 at HS ⊢
  obtain ⟨hB, k0, k1, k2⟩ := HS.out
  clear HS
  have cw := Lib.hid (within_any t 1 50)
  cases h5 : inB t 1 50 with
  | false =>
    have HE := Lib.hid (show cueL t a p = [] from cueL_no (by simp [cueOk, h5]))
    rw [h5] at cw
    refine (cw.out _).mono ?_
    rintro e w2 ⟨rfl, rfl⟩
    go_wp2_with (fail)
    go_ret
    exact ⟨ret_str (by rw [HE.out]), hB⟩
  | true =>
    have ht50 := inB_true.1 h5
    rw [h5] at cw
    refine (cw.out _).mono ?_
    rintro e w2 ⟨rfl, rfl⟩
    clear cw
    go_wp2_with (fail)
    refine (isStrict_any a 0 11 _ _ (h1.below hB)).mono ?_
    rintro e w3 ⟨rfl, hd⟩
    replace hB := bvia hB hd.below
    replace k0 := hd.cell k0
    replace k1 := hd.cell k1
    replace k2 := hd.cell k2
    clear hd
    cases h6 : risesB a 0 11 with
    | false =>
      have HE := Lib.hid (show cueL t a p = [] from cueL_no (by simp [cueOk, h6]))
      go_wp2_with (fail)
      go_ret
      exact ⟨ret_str (by rw [HE.out]), hB⟩
    | true =>
      go_wp2_with (fail)
      refine (isStrict_any p 0 6 _ _ (h2.below hB)).mono ?_
      rintro e w4 ⟨rfl, hd⟩
      replace hB := bvia hB hd.below
      replace k0 := hd.cell k0
      replace k1 := hd.cell k1
      replace k2 := hd.cell k2
      clear hd
      cases h7 : risesB p 0 6 with
      | false =>
        have HE := Lib.hid (show cueL t a p = [] from cueL_no (by simp [cueOk, h7]))
        go_wp2_with (fail)
        go_ret
        exact ⟨ret_str (by rw [HE.out]), hB⟩
      | true =>
        have hza := rises_bd (by omega) h6
        have hzp := rises_bd (by omega) h7
        have hsa := numsL_small hza
        have hsp := numsL_small hzp
        have hst := Lib.itoa_length_le t (by omega) (by omega)
        have hV : cueL t a p = Lib.itoa t ++ [47] ++ numsL a ++ [47] ++ numsL p := if_pos (by simp [cueOk, h5, h6, h7])
        have HF := Lib.hid (fun w' h => implFormatInt_any t (by omega) (by omega) w' h)
        have HA := Lib.hid (fun v' w' h t => implNumbersText_any a hza v' w' h t)
        have HP := Lib.hid (fun v' w' h t => implNumbersText_any p hzp v' w' h t)
        obtain ⟨ft, hft⟩ : ∃ f : ByteArray, (⟨(Lib.itoa t).toArray⟩ : ByteArray) = f := ⟨_, rfl⟩
        obtain ⟨fa, hfa⟩ : ∃ f : ByteArray, (⟨(numsL a).toArray⟩ : ByteArray) = f := ⟨_, rfl⟩
        obtain ⟨fp, hfp⟩ : ∃ f : ByteArray, (⟨(numsL p).toArray⟩ : ByteArray) = f := ⟨_, rfl⟩
        have et : ft.data.toList = Lib.itoa t := by rw [← hft]
        have ea : fa.data.toList = numsL a := by rw [← hfa]
        have ep : fp.data.toList = numsL p := by rw [← hfp]
        have zt : ft.size ≤ 21 := by rw [Lib.size_eq, et]; exact hst
        have za : fa.size ≤ 140737488355328 := by rw [Lib.size_eq, ea]; exact hsa
        have zp : fp.size ≤ 140737488355328 := by rw [Lib.size_eq, ep]; exact hsp
        rw [hft] at HF
        rw [hfa] at HA
        rw [hfp] at HP
        have HV : Hid ((ft ++ ⟨#[47]⟩) ++ fa ++ ⟨#[47]⟩ ++ fp = ⟨(cueL t a p).toArray⟩) := str_of (by rw [data_add, data_add, data_add, data_add, et, ea, ep, hV])
        clear hft hfa hfp et ea ep hV hsa hsp hst
        have l1 : ¬ 9223372036854775807 < ft.size + 1 := by omega
        have l2 : ¬ 9223372036854775807 < ft.size + 1 + fa.size := by omega
        have l3 : ¬ 9223372036854775807 < ft.size + 1 + fa.size + 1 := by omega
        have l4 : ¬ 9223372036854775807 < ft.size + 1 + fa.size + 1 + fp.size := by omega
        go_wp2_with (fail)
        replace hB := hB.drew
        with_reducible refine region_beg (n := 14) (S := (fun w' => w'.cell? ⟨w.heap.size, 0, none⟩ = some (.int .i64 t) ∧ w'.cell? ⟨w.heap.size, 1, none⟩ = some (.slice a1 a.length c1) ∧ w'.cell? ⟨w.heap.size, 2, none⟩ = some (.slice a2 p.length c2))) ?b1_u20 ?b2_u20 ?b3_u20 (fun hHeld => ?b4_u20)
        case b1_u20 => kernel_rfl
        case b2_u20 => kernel_rfl
        case b3_u20 => (try dsimp only); exact ⟨k0, k1, k2⟩
        with_reducible refine takeI2 (i := 0) (v := ?sv_u21) (oi := ?s0_u21) (by simp only [List.getElem?_toArray, List.getElem?_cons_succ, List.getElem?_cons_zero]; exact rfl) ?s1_u21 ?s2_u21 ?s3_u21 ?s4_u21 ?s5_u21 ?s6_u21 ?s7_u21
        case s1_u21 => kernel_rfl
        case s2_u21 => kernel_rfl
        case s3_u21 => kernel_rfl
        case s4_u21 => exact fun _ _ _ h => h
        case s5_u21 => exact Or.inl ⟨rfl, by intro w hSw; (try dsimp only at hSw); go_simp; try with_reducible rfl⟩
        case s6_u21 => assumption
        try simp only [Act.put, List.setIfInBounds_toArray, List.set_cons_zero, List.set_cons_succ]
        with_reducible refine takeI2 (i := 1) (v := ?sv_u22) (oi := ?s0_u22) (by simp only [List.getElem?_toArray, List.getElem?_cons_succ, List.getElem?_cons_zero]; exact rfl) ?s1_u22 ?s2_u22 ?s3_u22 ?s4_u22 ?s5_u22 ?s6_u22 ?s7_u22
        case s1_u22 => kernel_rfl
        case s2_u22 => kernel_rfl
        case s3_u22 => kernel_rfl
        case s4_u22 => exact fun _ _ _ h => h
        case s5_u22 => exact Or.inl ⟨rfl, by intro w hSw; (try dsimp only at hSw); go_simp; try with_reducible rfl⟩
        case s6_u22 => assumption
        try simp only [Act.put, List.setIfInBounds_toArray, List.set_cons_zero, List.set_cons_succ]
        with_reducible refine takeI2 (i := 4) (v := ?sv_u23) (oi := ?s0_u23) (by simp only [List.getElem?_toArray, List.getElem?_cons_succ, List.getElem?_cons_zero]; exact rfl) ?s1_u23 ?s2_u23 ?s3_u23 ?s4_u23 ?s5_u23 ?s6_u23 ?s7_u23
        case s1_u23 => kernel_rfl
        case s2_u23 => kernel_rfl
        case s3_u23 => kernel_rfl
        case s4_u23 => exact fun _ _ _ h => h
        case s5_u23 => exact Or.inl ⟨rfl, by intro w hSw; (try dsimp only at hSw); go_simp; try with_reducible rfl⟩
        case s6_u23 => assumption
        try simp only [Act.put, List.setIfInBounds_toArray, List.set_cons_zero, List.set_cons_succ]
        with_reducible refine takeI2 (i := 5) (v := ?sv_u24) (oi := ?s0_u24) (by simp only [List.getElem?_toArray, List.getElem?_cons_succ, List.getElem?_cons_zero]; exact rfl) ?s1_u24 ?s2_u24 ?s3_u24 ?s4_u24 ?s5_u24 ?s6_u24 ?s7_u24
        case s1_u24 => kernel_rfl
        case s2_u24 => kernel_rfl
        case s3_u24 => kernel_rfl
        case s4_u24 => exact fun _ _ _ h => h
        case s5_u24 => exact Or.inl ⟨rfl, by intro w hSw; (try dsimp only at hSw); go_simp; try with_reducible rfl⟩
        case s6_u24 => assumption
        try simp only [Act.put, List.setIfInBounds_toArray, List.set_cons_zero, List.set_cons_succ]
        with_reducible refine takeI2 (i := 9) (v := ?sv_u25) (oi := ?s0_u25) (by simp only [List.getElem?_toArray, List.getElem?_cons_succ, List.getElem?_cons_zero]; exact rfl) ?s1_u25 ?s2_u25 ?s3_u25 ?s4_u25 ?s5_u25 ?s6_u25 ?s7_u25
        case s1_u25 => kernel_rfl
        case s2_u25 => kernel_rfl
        case s3_u25 => kernel_rfl
        case s4_u25 => exact fun _ _ _ h => h
        case s5_u25 => exact Or.inl ⟨rfl, by intro w hSw; (try dsimp only at hSw); go_simp; try with_reducible rfl⟩
        case s6_u25 => assumption
        try simp only [Act.put, List.setIfInBounds_toArray, List.set_cons_zero, List.set_cons_succ]
        with_reducible refine takeI2 (i := 10) (v := ?sv_u26) (oi := ?s0_u26) (by simp only [List.getElem?_toArray, List.getElem?_cons_succ, List.getElem?_cons_zero]; exact rfl) ?s1_u26 ?s2_u26 ?s3_u26 ?s4_u26 ?s5_u26 ?s6_u26 ?s7_u26
        case s1_u26 => kernel_rfl
        case s2_u26 => kernel_rfl
        case s3_u26 => kernel_rfl
        case s4_u26 => exact fun _ _ _ h => h
        case s5_u26 => exact Or.inl ⟨rfl, by intro w hSw; (try dsimp only at hSw); go_simp; try with_reducible rfl⟩
        case s6_u26 => assumption
        try simp only [Act.put, List.setIfInBounds_toArray, List.set_cons_zero, List.set_cons_succ]
        with_reducible refine wpAnyH_ready (rs := [2]) ?s1_u27 one_ne ?s2_u27
        case s1_u27 => kernel_rfl
        with_reducible refine AllReadyH.cons (o := ?s0_u27) (by simp only [List.getElem?_toArray, List.getElem?_cons_succ, List.getElem?_cons_zero]; exact rfl) (fun K hK => ?s3_u27) AllReadyH.nil
        go_simp
        refine (HF.out _ (tabIs_below HT.out hB)).mono ?_
        rintro e w5 ⟨rfl, hb⟩
        replace hB := bvia hB hb
        replace k0 := cell_on hb k0
        replace k1 := cell_on hb k1
        replace k2 := cell_on hb k2
        clear hb
        go_wp2_with fail
        with_reducible refine hK.out _ _ ?s1_u28 (fun hHeld => ?s2_u28)
        case s1_u28 => (try dsimp only); exact ⟨k0, k1, k2⟩
        clear hK K
        try simp only [Act.put, List.setIfInBounds_toArray, List.set_cons_zero, List.set_cons_succ]
        with_reducible refine takeI2 (i := 3) (v := ?sv_u29) (oi := ?s0_u29) (by simp only [List.getElem?_toArray, List.getElem?_cons_succ, List.getElem?_cons_zero]; exact rfl) ?s1_u29 ?s2_u29 ?s3_u29 ?s4_u29 ?s5_u29 ?s6_u29 ?s7_u29
        case s1_u29 => kernel_rfl
        case s2_u29 => kernel_rfl
        case s3_u29 => kernel_rfl
        case s4_u29 => exact fun _ _ _ h => h
        case s5_u29 => exact Or.inl ⟨rfl, by intro w hSw; (try dsimp only at hSw); go_simp; try with_reducible rfl⟩
        case s6_u29 => assumption
        try simp only [Act.put, List.setIfInBounds_toArray, List.set_cons_zero, List.set_cons_succ]
        with_reducible refine wpAnyH_ready (rs := [6]) ?s1_u30 one_ne ?s2_u30
        case s1_u30 => kernel_rfl
        with_reducible refine AllReadyH.cons (o := ?s0_u30) (by simp only [List.getElem?_toArray, List.getElem?_cons_succ, List.getElem?_cons_zero]; exact rfl) (fun K hK => ?s3_u30) AllReadyH.nil
        go_simp
        refine (HA.out _ _ (h1.below hB) (tabIs_below HT.out hB)).mono ?_
        rintro e w6 ⟨rfl, hb⟩
        replace hB := bvia hB hb
        replace k0 := cell_on hb k0
        replace k1 := cell_on hb k1
        replace k2 := cell_on hb k2
        clear hb
        go_wp2_with fail
        with_reducible refine hK.out _ _ ?s1_u31 (fun hHeld => ?s2_u31)
        case s1_u31 => (try dsimp only); exact ⟨k0, k1, k2⟩
        clear hK K
        try simp only [Act.put, List.setIfInBounds_toArray, List.set_cons_zero, List.set_cons_succ]
        with_reducible refine takeI2 (i := 7) (v := ?sv_u32) (oi := ?s0_u32) (by simp only [List.getElem?_toArray, List.getElem?_cons_succ, List.getElem?_cons_zero]; exact rfl) ?s1_u32 ?s2_u32 ?s3_u32 ?s4_u32 ?s5_u32 ?s6_u32 ?s7_u32
        case s1_u32 => kernel_rfl
        case s2_u32 => kernel_rfl
        case s3_u32 => kernel_rfl
        case s4_u32 => exact fun _ _ _ h => h
        case s5_u32 => exact Or.inl ⟨rfl, by intro w hSw; (try dsimp only at hSw); go_simp; try with_reducible rfl⟩
        case s6_u32 => assumption
        try simp only [Act.put, List.setIfInBounds_toArray, List.set_cons_zero, List.set_cons_succ]
        with_reducible refine takeI2 (i := 8) (v := ?sv_u33) (oi := ?s0_u33) (by simp only [List.getElem?_toArray, List.getElem?_cons_succ, List.getElem?_cons_zero]; exact rfl) ?s1_u33 ?s2_u33 ?s3_u33 ?s4_u33 ?s5_u33 ?s6_u33 ?s7_u33
        case s1_u33 => kernel_rfl
        case s2_u33 => kernel_rfl
        case s3_u33 => kernel_rfl
        case s4_u33 => exact fun _ _ _ h => h
        case s5_u33 => exact Or.inl ⟨rfl, by intro w hSw; (try dsimp only at hSw); go_simp; try with_reducible rfl⟩
        case s6_u33 => assumption
        try simp only [Act.put, List.setIfInBounds_toArray, List.set_cons_zero, List.set_cons_succ]
        with_reducible refine wpAnyH_ready (rs := [11]) ?s1_u34 one_ne ?s2_u34
        case s1_u34 => kernel_rfl
        with_reducible refine AllReadyH.cons (o := ?s0_u34) (by simp only [List.getElem?_toArray, List.getElem?_cons_succ, List.getElem?_cons_zero]; exact rfl) (fun K hK => ?s3_u34) AllReadyH.nil
        go_simp
        refine (HP.out _ _ (h2.below hB) (tabIs_below HT.out hB)).mono ?_
        rintro e w7 ⟨rfl, hb⟩
        replace hB := bvia hB hb
        replace k0 := cell_on hb k0
        replace k1 := cell_on hb k1
        replace k2 := cell_on hb k2
        clear hb
        go_wp2_with fail
        with_reducible refine hK.out _ _ ?s1_u35 (fun hHeld => ?s2_u35)
        case s1_u35 => (try dsimp only); exact ⟨k0, k1, k2⟩
        clear hK K
        try simp only [Act.put, List.setIfInBounds_toArray, List.set_cons_zero, List.set_cons_succ]
        with_reducible refine takeI2 (i := 12) (v := ?sv_u36) (oi := ?s0_u36) (by simp only [List.getElem?_toArray, List.getElem?_cons_succ, List.getElem?_cons_zero]; exact rfl) ?s1_u36 ?s2_u36 ?s3_u36 ?s4_u36 ?s5_u36 ?s6_u36 ?s7_u36
        case s1_u36 => kernel_rfl
        case s2_u36 => kernel_rfl
        case s3_u36 => kernel_rfl
        case s4_u36 => exact fun _ _ _ h => h
        case s5_u36 => exact Or.inl ⟨rfl, by intro w hSw; (try dsimp only at hSw); go_simp; try with_reducible rfl⟩
        case s6_u36 => assumption
        try simp only [Act.put, List.setIfInBounds_toArray, List.set_cons_zero, List.set_cons_succ]
        with_reducible refine takeI2 (i := 13) (v := ?sv_u37) (oi := ?s0_u37) (by simp only [List.getElem?_toArray, List.getElem?_cons_succ, List.getElem?_cons_zero]; exact rfl) ?s1_u37 ?s2_u37 ?s3_u37 ?s4_u37 ?s5_u37 ?s6_u37 ?s7_u37
        case s1_u37 => kernel_rfl
        case s2_u37 => kernel_rfl
        case s3_u37 => kernel_rfl
        case s4_u37 => exact fun _ _ _ h => h
        case s5_u37 => exact Or.inl ⟨rfl, by intro w hSw; (try dsimp only at hSw); go_simp; try with_reducible rfl⟩
        case s6_u37 => assumption
        try simp only [Act.put, List.setIfInBounds_toArray, List.set_cons_zero, List.set_cons_succ]
        with_reducible refine wpAnyH_done ?s1_u38 ?s2_u38 _
        case s1_u38 => kernel_rfl
        go_wp2_with (fail)
        go_ret
        exact ⟨ret_str HV.out, hB⟩
end Go.Proofs.YtkkcglncjdoacaaDoor
