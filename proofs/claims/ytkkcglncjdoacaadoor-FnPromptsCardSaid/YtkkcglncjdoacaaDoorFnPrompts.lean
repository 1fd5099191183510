/- The walk of the law FnPrompts. -/
import Derived.Test.YtkkcglncjdoacaaDoorPromL
import Derived.Test.YtkkcglncjdoacaaDoorDrawD
import Derived.Test.YtkkcglncjdoacaaDoorRdSI
import Derived.Test.YtkkcglncjdoacaaDoorRg2
namespace Go.Proofs.YtkkcglncjdoacaaDoor
open Go.ChangeShapes Go.WideShapes Go.ChangeAt Go.RowKit Go.Joins
set_option linter.unusedSimpArgs false
set_option linter.unusedVariables false
set_option maxRecDepth 20000

theorem sameInts_any (zs : List Int) (v u : Value) (w : World) (h : RdI w v zs) (h' : RdI w u zs) :
    Calls Tryd.prog 32 #[v, u] w fun e w' => e = .returned (.bool true) ∧ Dr w w' := by
  obtain ⟨ad, cap, bl, off, rfl, hcap, hmax, had, hc⟩ := h.open
  obtain ⟨ad', cap', bl', off', rfl, hcap', hmax', had', hc'⟩ := h'.open
  have HC := Lib.hid hc
  have HC' := Lib.hid hc'
  clear h hc h' hc'
  go_enter Tryd.func32, Tryd.ntmps32
  go_wp2
  go_loopw [5] (fun i wr => ∃ k : Nat, k ≤ zs.length ∧ i = .int .i64 k ∧ Dr w wr) (fun i _ => zs.length - (intOf i).toNat)
  case atStart => exact ⟨0, Nat.zero_le _, rfl, Dr.refl _⟩
  case round =>
    obtain ⟨k, hk, rfl, hD⟩ := hrel
    by_cases hlt : k < zs.length
    · obtain rfl := had (by omega)
      obtain rfl := had' (by omega)
      obtain ⟨x, hck, hck'⟩ : ∃ x, wr.cell? ⟨bl, off + k, none⟩ = some (.int .i64 x) ∧ wr.cell? ⟨bl', off' + k, none⟩ = some (.int .i64 x) := ⟨_, hD.cell (HC.out k hlt), hD.cell (HC'.out k hlt)⟩
      go_wp2
      go_quiet (fail)
      go_wp2
      exact ⟨⟨k + 1, by omega, by go_num, hD.next _⟩, by simp [intOf]; omega⟩
    · go_wp2
      go_ret
      exact ⟨rfl, hD⟩
theorem dr1 (w : World) : Dr w w.drew := ⟨1, rfl⟩
/-- The cells of a cue. -/
def At3 (W : World) (b o : Nat) (t : Int) (A P : List Int) (u1 u2 : Value) : Prop :=
  (W.cell? ⟨b, o, none⟩ = some (.int .i64 t) ∧ W.cell? ⟨b, o + 1, none⟩ = some u1 ∧ W.cell? ⟨b, o + 2, none⟩ = some u2) ∧ RdI W u1 A ∧ RdI W u2 P
theorem At3.below {W W' : World} {b o : Nat} {t : Int} {A P : List Int} {u1 u2 : Value} (h : At3 W b o t A P u1 u2) (hb : Below W.heap.size W W') : At3 W' b o t A P u1 u2 :=
  ⟨⟨cell_on hb h.1.1, cell_on hb h.1.2.1, cell_on hb h.1.2.2⟩, h.2.1.below hb, h.2.2.below hb⟩
theorem strict_text : (⟨#[51, 47, 48, 44, 50, 47, 49]⟩ : ByteArray) = ⟨(cueL 3 [0, 2] [1]).toArray⟩ := by rw [last_text]

set_option maxRecDepth 40000 in
set_option maxHeartbeats 4000000 in
theorem walkFnPrompts (n : Nat) (v : Value) (w : World) (hr : RdB w w.heap.size v n) (ht : Pow10 w) (he : HasErr w) (hm : HasMax w) : Calls Tryd.prog 7 #[v] w fun e w' => e = .returned (.bool true) ∧ Below w.heap.size w w' := by
  by_cases hbig : n ≤ 1048576
  · have hbd : decide (1048576 < n) = false := decide_eq_false (by omega)
    have hB := Below.refl w.heap.size w
    have HT := Lib.hid (And.intro ht (And.intro he hm))
    clear ht he hm
    go_enter Tryd.func7, Tryd.ntmps7
    go_wp2_with (fail)
    refine (big_any n _ _ _ hr).mono ?_
    rintro e w1 ⟨rfl, rfl⟩
    go_wp2_with (fail)
    refine (drawCues_any n _ _ hr).mono ?_
    rintro e w2 ⟨ul, rfl, zs, hl, hdr, hpos, hb⟩
    replace hB := bvia hB hb
    clear hb hr
    have hcb : cuesB zs = true := hdr.ok hpos
    have hln := cuesB_len hcb
    have hsc := rsF_scene hcb
    have hsz := scene_size hcb
    have hko := cues_ok hcb
    obtain ⟨t, htx⟩ : ∃ t : ByteArray, (⟨(sceneL zs).toArray⟩ : ByteArray) = t := ⟨_, rfl⟩
    have htl : t.data.toList = sceneL zs := by rw [← htx]
    have hts : t.size ≤ 1200 := by rw [Lib.size_eq, htl]; exact hsz
    have htl2 : (t ++ ⟨#[59]⟩).data.toList = sceneL zs ++ [59] := by rw [data_add, htl]
    have hts2 : (t ++ ⟨#[59]⟩ : ByteArray).size ≤ 1048576 := by rw [Lib.size_eq, htl2, List.length_append]; simp; omega
    have HST := Lib.hid (fun v' w' h ht => implSceneText_any zs v' w' h ht)
    rw [htx] at HST
    have HR1 := Lib.hid (fun w' h1 h2 h3 => implReadScene_any t (by omega) w' h1 h2 h3)
    rw [htl, (rs_some hsc.1).1, (rs_some hsc.1).2] at HR1
    have HR2 := Lib.hid (fun w' h1 h2 h3 => implReadScene_any (t ++ ⟨#[59]⟩) hts2 w' h1 h2 h3)
    rw [htl2, (rs_none hsc.2).1, (rs_none hsc.2).2] at HR2
    have HK := Lib.hid hko
    have hs1 : ¬ 9223372036854775807 < t.size + 1 := by omega
    have hbq : (t.toList == t.toList) = true := beq_self_eq_true _
    clear hdr hcb hsc hsz hko htx htl htl2 hts2 hpos
    obtain ⟨al, cl, rfl, hml⟩ := hl.shape
    go_wp2_with (fail)
    refine (HST.out _ _ hl (tabIs_below HT.out.1 hB)).mono ?_
    rintro e w3 ⟨rfl, hb⟩
    replace hl := hl.below hb
    replace hB := bvia hB hb
    clear hb
    go_wp2_with (fail)
    refine (HR1.out _ (tabIs_below HT.out.1 hB) (HasErr.below HT.out.2.1 hB) (HasMax.below HT.out.2.2 hB)).mono ?_
    rintro e w4 ⟨ur, rfl, or, hb⟩
    replace hl := hl.below hb
    replace hB := bvia hB hb
    have hr := or.rd
    clear hb or HR1
    go_wp2_with (fail)
    refine (HR2.out _ (tabIs_below HT.out.1 hB) (HasErr.below HT.out.2.1 hB) (HasMax.below HT.out.2.2 hB)).mono ?_
    rintro e w5 ⟨ux, rfl, ox, hb⟩
    replace hl := hl.below hb
    replace hr := hr.below hb
    replace hB := bvia hB hb
    clear hb ox HR2
    obtain ⟨ar, cr, rfl, hmr⟩ := hr.shape
    go_wp2_with (fail)
    refine (HST.out _ _ hr (tabIs_below HT.out.1 hB)).mono ?_
    rintro e w6 ⟨rfl, hb⟩
    replace hl := hl.below hb
    replace hr := hr.below hb
    replace hB := bvia hB hb
    clear hb HST
    go_wp2_with (fail)
    go_loopw [9] (fun i wr => ∃ k : Nat, k ≤ zs.length ∧ i = .int .i64 k ∧ Below w.heap.size w wr ∧ RdCue wr (.slice al zs.length cl) zs ∧ RdCue wr (.slice ar zs.length cr) zs) (fun i _ => zs.length - (intOf i).toNat)
    case atStart => exact ⟨0, Nat.zero_le _, rfl, hB, hl, hr⟩
    case round =>
     focus
      clear hB hl hr
      obtain ⟨k, hk, rfl, hB, hl, hr⟩ := hrel
      by_cases hlt : k < zs.length
      · obtain ⟨⟨tt, A, P⟩, hz⟩ : ∃ x, zs[k]? = some x := ⟨_, List.getElem?_eq_getElem hlt⟩
        have hok := HK.out _ (List.mem_of_getElem? hz)
        obtain ⟨al', cl', bl, ol, evl, _, _, hal, hcl⟩ := id hl
        obtain ⟨rfl, rfl⟩ : al = al' ∧ cl = cl' := by simpa using evl
        obtain ⟨ar', cr', br, orr, evr, _, _, har, hcr⟩ := id hr
        obtain ⟨rfl, rfl⟩ : ar = ar' ∧ cr = cr' := by simpa using evr
        clear evl evr
        obtain rfl := hal (by omega)
        obtain rfl := har (by omega)
        obtain ⟨u1, u2, c0, c1, c2, i1, i2⟩ := hcl k _ hz
        obtain ⟨v1, v2, d0, d1, d2, j1, j2⟩ := hcr k _ hz
        dsimp only at c0 c1 c2 i1 i2 d0 d1 d2 j1 j2 hok
        clear hal har hcl hcr
        have hL : At3 wr bl (ol + k * 3) tt A P u1 u2 := ⟨⟨c0, c1, c2⟩, i1, i2⟩
        have hR : At3 wr br (orr + k * 3) tt A P v1 v2 := ⟨⟨d0, d1, d2⟩, j1, j2⟩
        obtain ⟨hA, hP⟩ := (cueOk_lists hok).2
        have hrc := rcF_cue hok
        have hrd := rdF_nums hP.1 hP.2
        have hPb : ∀ z ∈ P, -9223372036854775808 ≤ z ∧ z ≤ 9223372036854775807 := fun z hz => by have := hP.2 z hz; omega
        obtain ⟨s, hsx⟩ : ∃ s : ByteArray, (⟨(cueL tt A P).toArray⟩ : ByteArray) = s := ⟨_, rfl⟩
        have hsl : s.data.toList = cueL tt A P := by rw [← hsx]
        have hss : s.size ≤ 1048576 := by rw [Lib.size_eq, hsl]; have := cueL_len tt A P; omega
        obtain ⟨q, hqx⟩ : ∃ q : ByteArray, (⟨(numsL P).toArray⟩ : ByteArray) = q := ⟨_, rfl⟩
        have hql : q.data.toList = numsL P := by rw [← hqx]
        have hqs : q.size ≤ 1048576 := by rw [Lib.size_eq, hql]; have := numsL_len hPb; omega
        have HCT := Lib.hid (fun v1 v2 w' h1 h2 ht => implCueText_any tt A P v1 v2 w' h1 h2 ht)
        rw [hsx] at HCT
        have HRC := Lib.hid (fun w' h1 h2 h3 => implReadCue_any s hss w' h1 h2 h3)
        rw [hsl, (rc_some hrc).1, (rc_some hrc).2] at HRC
        have HNT := Lib.hid (fun v' w' h ht => implNumbersText_any P hPb v' w' h ht)
        rw [hqx] at HNT
        have HRN := Lib.hid (fun w' h1 h2 h3 => implReadNumbers_any q hqs w' h1 h2 h3)
        rw [hql, (rd_some hrd).1, (rd_some hrd).2] at HRN
        dsimp only at HRC
        have HSA := Lib.hid (fun v u w' h h' => sameInts_any A v u w' h h')
        have HSP := Lib.hid (fun v u w' h h' => sameInts_any P v u w' h h')
        have qk : (k : Int) < (zs.length : Int) := by omega
        clear hz hok hrc hrd hPb hsx hsl hss hqx hql hqs hA hP i1 i2 d0 d1 d2 j1 j2
        obtain ⟨e1, f1, rfl⟩ := hL.2.1.shape
        obtain ⟨e2, f2, rfl⟩ := hL.2.2.shape
        go_wp2_with (fail)
        refine (HCT.out _ _ _ hL.2.1 hL.2.2 (tabIs_below HT.out.1 hB)).mono ?_
        rintro e w7 ⟨rfl, hb⟩
        replace hl := hl.below hb
        replace hr := hr.below hb
        replace hL := hL.below hb
        replace hR := hR.below hb
        replace hB := bvia hB hb
        clear hb HCT c0 c1 c2
        go_wp2_with (fail)
        refine (HRC.out _ (tabIs_below HT.out.1 hB) (HasErr.below HT.out.2.1 hB) (HasMax.below HT.out.2.2 hB)).mono ?_
        rintro e w8 ⟨x1, x2, rfl, o1, o2, _, hb⟩
        replace hl := hl.below hb
        replace hr := hr.below hb
        replace hL := hL.below hb
        replace hR := hR.below hb
        replace hB := bvia hB hb
        replace o1 := o1.rd
        replace o2 := o2.rd
        obtain ⟨g1, y1, rfl⟩ := o1.shape
        obtain ⟨g2, y2, rfl⟩ := o2.shape
        have hba := below_alloc1 w8 (.cells #[.int .i64 tt, .slice g1 A.length y1, .slice g2 P.length y2] 31)
        obtain ⟨k0, k1, k2⟩ : (w8.alloc (.cells #[.int .i64 tt, .slice g1 A.length y1, .slice g2 P.length y2] 31)).cell? ⟨w8.heap.size, 0, none⟩ = some (.int .i64 tt) ∧ (w8.alloc (.cells #[.int .i64 tt, .slice g1 A.length y1, .slice g2 P.length y2] 31)).cell? ⟨w8.heap.size, 1, none⟩ = some (.slice g1 A.length y1) ∧ (w8.alloc (.cells #[.int .i64 tt, .slice g1 A.length y1, .slice g2 P.length y2] 31)).cell? ⟨w8.heap.size, 2, none⟩ = some (.slice g2 P.length y2) := by refine ⟨?_, ?_, ?_⟩ <;> simp [go_sem]
        have hX : At3 (w8.alloc (.cells #[.int .i64 tt, .slice g1 A.length y1, .slice g2 P.length y2] 31)) w8.heap.size 0 tt A P (.slice g1 A.length y1) (.slice g2 P.length y2) := ⟨⟨k0, k1, k2⟩, o1.below hba, o2.below hba⟩
        replace hl := hl.below hba
        replace hr := hr.below hba
        replace hL := hL.below hba
        replace hR := hR.below hba
        replace hB := bvia hB hba
        have HX := Lib.hid (And.intro hX (And.intro hl (And.intro hr (And.intro hL (And.intro hR hB)))))
        clear hb hba HRC k0 k1 k2 hX hl hr hL hR hB o1 o2
        go_wp2_with (fail)
        generalize w8.alloc (.cells #[.int .i64 tt, .slice g1 A.length y1, .slice g2 P.length y2] 31) = w9 at HX ⊢
        generalize w8.heap.size = gx at HX ⊢
        obtain ⟨hX, hl, hr, hL, hR, hB⟩ := HX.out
        clear HX
        obtain ⟨h1, h2, rfl⟩ := hR.2.1.shape
        replace hX := hX.below (dr1 w9).below
        replace hl := hl.below (dr1 w9).below
        replace hr := hr.below (dr1 w9).below
        replace hL := hL.below (dr1 w9).below
        replace hR := hR.below (dr1 w9).below
        replace hB := bvia hB (dr1 w9).below
        with_reducible refine region_beg (n := 61) (S := (fun w' => (w'.cell? ⟨gx, 0, none⟩ = some (.int .i64 tt) ∧ w'.cell? ⟨gx, 1, none⟩ = some (.slice g1 A.length y1) ∧ w'.cell? ⟨gx, 2, none⟩ = some (.slice g2 P.length y2)) ∧ (w'.cell? ⟨bl, ol + k * 3, none⟩ = some (.int .i64 tt) ∧ w'.cell? ⟨bl, ol + k * 3 + 1, none⟩ = some (.slice e1 A.length f1) ∧ w'.cell? ⟨bl, ol + k * 3 + 2, none⟩ = some (.slice e2 P.length f2)) ∧ (w'.cell? ⟨br, orr + k * 3, none⟩ = some (.int .i64 tt) ∧ w'.cell? ⟨br, orr + k * 3 + 1, none⟩ = some (.slice h1 A.length h2)))) ?b1_u1 ?b2_u1 ?b3_u1 (fun hHeld => ?b4_u1)
        case b1_u1 => kernel_rfl
        case b2_u1 => kernel_rfl
        case b3_u1 => (try dsimp only); exact ⟨hX.1, hL.1, hR.1.1, hR.1.2.1⟩
        with_reducible refine takeI2 (i := 0) (v := ?sv_u2) (oi := ?s0_u2) (by simp only [List.getElem?_toArray, List.getElem?_cons_succ, List.getElem?_cons_zero]; exact rfl) ?s1_u2 ?s2_u2 ?s3_u2 ?s4_u2 ?s5_u2 ?s6_u2 ?s7_u2
        case s1_u2 => kernel_rfl
        case s2_u2 => kernel_rfl
        case s3_u2 => kernel_rfl
        case s4_u2 => exact fun _ _ _ h => h
        case s5_u2 => exact Or.inl ⟨rfl, by intro w hSw; (try dsimp only at hSw); go_simp; try with_reducible rfl⟩
        case s6_u2 => assumption
        try simp only [Act.put, List.setIfInBounds_toArray, List.set_cons_zero, List.set_cons_succ]
        with_reducible refine takeI2 (i := 1) (v := ?sv_u3) (oi := ?s0_u3) (by simp only [List.getElem?_toArray, List.getElem?_cons_succ, List.getElem?_cons_zero]; exact rfl) ?s1_u3 ?s2_u3 ?s3_u3 ?s4_u3 ?s5_u3 ?s6_u3 ?s7_u3
        case s1_u3 => kernel_rfl
        case s2_u3 => kernel_rfl
        case s3_u3 => kernel_rfl
        case s4_u3 => exact fun _ _ _ h => h
        case s5_u3 => exact Or.inl ⟨rfl, by intro w hSw; (try dsimp only at hSw); go_simp; try with_reducible rfl⟩
        case s6_u3 => assumption
        try simp only [Act.put, List.setIfInBounds_toArray, List.set_cons_zero, List.set_cons_succ]
        with_reducible refine takeI2 (i := 2) (v := ?sv_u4) (oi := ?s0_u4) (by simp only [List.getElem?_toArray, List.getElem?_cons_succ, List.getElem?_cons_zero]; exact rfl) ?s1_u4 ?s2_u4 ?s3_u4 ?s4_u4 ?s5_u4 ?s6_u4 ?s7_u4
        case s1_u4 => kernel_rfl
        case s2_u4 => kernel_rfl
        case s3_u4 => kernel_rfl
        case s4_u4 => exact fun _ _ _ h => h
        case s5_u4 => exact Or.inl ⟨rfl, by intro w hSw; (try dsimp only at hSw); go_simp; try with_reducible rfl⟩
        case s6_u4 => assumption
        try simp only [Act.put, List.setIfInBounds_toArray, List.set_cons_zero, List.set_cons_succ]
        with_reducible refine takeI2 (i := 3) (v := ?sv_u5) (oi := ?s0_u5) (by simp only [List.getElem?_toArray, List.getElem?_cons_succ, List.getElem?_cons_zero]; exact rfl) ?s1_u5 ?s2_u5 ?s3_u5 ?s4_u5 ?s5_u5 ?s6_u5 ?s7_u5
        case s1_u5 => kernel_rfl
        case s2_u5 => kernel_rfl
        case s3_u5 => kernel_rfl
        case s4_u5 => exact fun _ _ _ h => h
        case s5_u5 => exact Or.inl ⟨rfl, by intro w hSw; (try dsimp only at hSw); go_simp; try with_reducible rfl⟩
        case s6_u5 => assumption
        try simp only [Act.put, List.setIfInBounds_toArray, List.set_cons_zero, List.set_cons_succ]
        with_reducible refine takeI2 (i := 4) (v := ?sv_u6) (oi := ?s0_u6) (by simp only [List.getElem?_toArray, List.getElem?_cons_succ, List.getElem?_cons_zero]; exact rfl) ?s1_u6 ?s2_u6 ?s3_u6 ?s4_u6 ?s5_u6 ?s6_u6 ?s7_u6
        case s1_u6 => kernel_rfl
        case s2_u6 => kernel_rfl
        case s3_u6 => kernel_rfl
        case s4_u6 => exact fun _ _ _ h => h
        case s5_u6 => exact Or.inl ⟨rfl, by intro w hSw; (try dsimp only at hSw); go_simp; try with_reducible rfl⟩
        case s6_u6 => assumption
        try simp only [Act.put, List.setIfInBounds_toArray, List.set_cons_zero, List.set_cons_succ]
        with_reducible refine takeI2 (i := 5) (v := ?sv_u7) (oi := ?s0_u7) (by simp only [List.getElem?_toArray, List.getElem?_cons_succ, List.getElem?_cons_zero]; exact rfl) ?s1_u7 ?s2_u7 ?s3_u7 ?s4_u7 ?s5_u7 ?s6_u7 ?s7_u7
        case s1_u7 => kernel_rfl
        case s2_u7 => kernel_rfl
        case s3_u7 => kernel_rfl
        case s4_u7 => exact fun _ _ _ h => h
        case s5_u7 => exact Or.inl ⟨rfl, by intro w hSw; (try dsimp only at hSw); go_simp; try with_reducible rfl⟩
        case s6_u7 => assumption
        try simp only [Act.put, List.setIfInBounds_toArray, List.set_cons_zero, List.set_cons_succ]
        with_reducible refine takeI2 (i := 6) (v := ?sv_u8) (oi := ?s0_u8) (by simp only [List.getElem?_toArray, List.getElem?_cons_succ, List.getElem?_cons_zero]; exact rfl) ?s1_u8 ?s2_u8 ?s3_u8 ?s4_u8 ?s5_u8 ?s6_u8 ?s7_u8
        case s1_u8 => kernel_rfl
        case s2_u8 => kernel_rfl
        case s3_u8 => kernel_rfl
        case s4_u8 => exact fun _ _ _ h => h
        case s5_u8 => exact Or.inl ⟨rfl, by intro w hSw; (try dsimp only at hSw); go_simp; try with_reducible rfl⟩
        case s6_u8 => assumption
        try simp only [Act.put, List.setIfInBounds_toArray, List.set_cons_zero, List.set_cons_succ]
        with_reducible refine takeI2 (i := 7) (v := ?sv_u9) (oi := ?s0_u9) (by simp only [List.getElem?_toArray, List.getElem?_cons_succ, List.getElem?_cons_zero]; exact rfl) ?s1_u9 ?s2_u9 ?s3_u9 ?s4_u9 ?s5_u9 ?s6_u9 ?s7_u9
        case s1_u9 => kernel_rfl
        case s2_u9 => kernel_rfl
        case s3_u9 => kernel_rfl
        case s4_u9 => exact fun _ _ _ h => h
        case s5_u9 => exact Or.inl ⟨rfl, by intro w hSw; (try dsimp only at hSw); go_simp; try with_reducible rfl⟩
        case s6_u9 => assumption
        try simp only [Act.put, List.setIfInBounds_toArray, List.set_cons_zero, List.set_cons_succ]
        with_reducible refine takeI2 (i := 8) (v := ?sv_u10) (oi := ?s0_u10) (by simp only [List.getElem?_toArray, List.getElem?_cons_succ, List.getElem?_cons_zero]; exact rfl) ?s1_u10 ?s2_u10 ?s3_u10 ?s4_u10 ?s5_u10 ?s6_u10 ?s7_u10
        case s1_u10 => kernel_rfl
        case s2_u10 => kernel_rfl
        case s3_u10 => kernel_rfl
        case s4_u10 => exact fun _ _ _ h => h
        case s5_u10 => exact Or.inl ⟨rfl, by intro w hSw; (try dsimp only at hSw); go_simp; try with_reducible rfl⟩
        case s6_u10 => assumption
        try simp only [Act.put, List.setIfInBounds_toArray, List.set_cons_zero, List.set_cons_succ]
        with_reducible refine takeI2 (i := 9) (v := ?sv_u11) (oi := ?s0_u11) (by simp only [List.getElem?_toArray, List.getElem?_cons_succ, List.getElem?_cons_zero]; exact rfl) ?s1_u11 ?s2_u11 ?s3_u11 ?s4_u11 ?s5_u11 ?s6_u11 ?s7_u11
        case s1_u11 => kernel_rfl
        case s2_u11 => kernel_rfl
        case s3_u11 => kernel_rfl
        case s4_u11 => exact fun _ _ _ h => h
        case s5_u11 => exact Or.inl ⟨rfl, by intro w hSw; (try dsimp only at hSw); go_simp; try with_reducible rfl⟩
        case s6_u11 => assumption
        try simp only [Act.put, List.setIfInBounds_toArray, List.set_cons_zero, List.set_cons_succ]
        with_reducible refine takeI2 (i := 10) (v := ?sv_u12) (oi := ?s0_u12) (by simp only [List.getElem?_toArray, List.getElem?_cons_succ, List.getElem?_cons_zero]; exact rfl) ?s1_u12 ?s2_u12 ?s3_u12 ?s4_u12 ?s5_u12 ?s6_u12 ?s7_u12
        case s1_u12 => kernel_rfl
        case s2_u12 => kernel_rfl
        case s3_u12 => kernel_rfl
        case s4_u12 => exact fun _ _ _ h => h
        case s5_u12 => exact Or.inl ⟨rfl, by intro w hSw; (try dsimp only at hSw); go_simp; try with_reducible rfl⟩
        case s6_u12 => assumption
        try simp only [Act.put, List.setIfInBounds_toArray, List.set_cons_zero, List.set_cons_succ]
        with_reducible refine takeI2 (i := 11) (v := ?sv_u13) (oi := ?s0_u13) (by simp only [List.getElem?_toArray, List.getElem?_cons_succ, List.getElem?_cons_zero]; exact rfl) ?s1_u13 ?s2_u13 ?s3_u13 ?s4_u13 ?s5_u13 ?s6_u13 ?s7_u13
        case s1_u13 => kernel_rfl
        case s2_u13 => kernel_rfl
        case s3_u13 => kernel_rfl
        case s4_u13 => exact fun _ _ _ h => h
        case s5_u13 => exact Or.inl ⟨rfl, by intro w hSw; (try dsimp only at hSw); go_simp; try with_reducible rfl⟩
        case s6_u13 => assumption
        try simp only [Act.put, List.setIfInBounds_toArray, List.set_cons_zero, List.set_cons_succ]
        with_reducible refine takeI2 (i := 12) (v := ?sv_u14) (oi := ?s0_u14) (by simp only [List.getElem?_toArray, List.getElem?_cons_succ, List.getElem?_cons_zero]; exact rfl) ?s1_u14 ?s2_u14 ?s3_u14 ?s4_u14 ?s5_u14 ?s6_u14 ?s7_u14
        case s1_u14 => kernel_rfl
        case s2_u14 => kernel_rfl
        case s3_u14 => kernel_rfl
        case s4_u14 => exact fun _ _ _ h => h
        case s5_u14 => exact Or.inl ⟨rfl, by intro w hSw; (try dsimp only at hSw); go_simp; try with_reducible rfl⟩
        case s6_u14 => assumption
        try simp only [Act.put, List.setIfInBounds_toArray, List.set_cons_zero, List.set_cons_succ]
        with_reducible refine takeI2 (i := 13) (v := ?sv_u15) (oi := ?s0_u15) (by simp only [List.getElem?_toArray, List.getElem?_cons_succ, List.getElem?_cons_zero]; exact rfl) ?s1_u15 ?s2_u15 ?s3_u15 ?s4_u15 ?s5_u15 ?s6_u15 ?s7_u15
        case s1_u15 => kernel_rfl
        case s2_u15 => kernel_rfl
        case s3_u15 => kernel_rfl
        case s4_u15 => exact fun _ _ _ h => h
        case s5_u15 => exact Or.inl ⟨rfl, by intro w hSw; (try dsimp only at hSw); go_simp; try with_reducible rfl⟩
        case s6_u15 => assumption
        try simp only [Act.put, List.setIfInBounds_toArray, List.set_cons_zero, List.set_cons_succ]
        with_reducible refine takeI2 (i := 14) (v := ?sv_u16) (oi := ?s0_u16) (by simp only [List.getElem?_toArray, List.getElem?_cons_succ, List.getElem?_cons_zero]; exact rfl) ?s1_u16 ?s2_u16 ?s3_u16 ?s4_u16 ?s5_u16 ?s6_u16 ?s7_u16
        case s1_u16 => kernel_rfl
        case s2_u16 => kernel_rfl
        case s3_u16 => kernel_rfl
        case s4_u16 => exact fun _ _ _ h => h
        case s5_u16 => exact Or.inl ⟨rfl, by intro w hSw; (try dsimp only at hSw); go_simp; try with_reducible rfl⟩
        case s6_u16 => assumption
        try simp only [Act.put, List.setIfInBounds_toArray, List.set_cons_zero, List.set_cons_succ]
        with_reducible refine takeI2 (i := 15) (v := ?sv_u17) (oi := ?s0_u17) (by simp only [List.getElem?_toArray, List.getElem?_cons_succ, List.getElem?_cons_zero]; exact rfl) ?s1_u17 ?s2_u17 ?s3_u17 ?s4_u17 ?s5_u17 ?s6_u17 ?s7_u17
        case s1_u17 => kernel_rfl
        case s2_u17 => kernel_rfl
        case s3_u17 => kernel_rfl
        case s4_u17 => exact fun _ _ _ h => h
        case s5_u17 => exact Or.inl ⟨rfl, by intro w hSw; (try dsimp only at hSw); go_simp; try with_reducible rfl⟩
        case s6_u17 => assumption
        try simp only [Act.put, List.setIfInBounds_toArray, List.set_cons_zero, List.set_cons_succ]
        with_reducible refine takeI2 (i := 16) (v := ?sv_u18) (oi := ?s0_u18) (by simp only [List.getElem?_toArray, List.getElem?_cons_succ, List.getElem?_cons_zero]; exact rfl) ?s1_u18 ?s2_u18 ?s3_u18 ?s4_u18 ?s5_u18 ?s6_u18 ?s7_u18
        case s1_u18 => kernel_rfl
        case s2_u18 => kernel_rfl
        case s3_u18 => kernel_rfl
        case s4_u18 => exact fun _ _ _ h => h
        case s5_u18 => exact Or.inl ⟨rfl, by intro w hSw; (try dsimp only at hSw); go_simp; try with_reducible rfl⟩
        case s6_u18 => assumption
        try simp only [Act.put, List.setIfInBounds_toArray, List.set_cons_zero, List.set_cons_succ]
        with_reducible refine takeI2 (i := 17) (v := ?sv_u19) (oi := ?s0_u19) (by simp only [List.getElem?_toArray, List.getElem?_cons_succ, List.getElem?_cons_zero]; exact rfl) ?s1_u19 ?s2_u19 ?s3_u19 ?s4_u19 ?s5_u19 ?s6_u19 ?s7_u19
        case s1_u19 => kernel_rfl
        case s2_u19 => kernel_rfl
        case s3_u19 => kernel_rfl
        case s4_u19 => exact fun _ _ _ h => h
        case s5_u19 => exact Or.inl ⟨rfl, by intro w hSw; (try dsimp only at hSw); go_simp; try with_reducible rfl⟩
        case s6_u19 => assumption
        try simp only [Act.put, List.setIfInBounds_toArray, List.set_cons_zero, List.set_cons_succ]
        with_reducible refine takeI2 (i := 18) (v := ?sv_u20) (oi := ?s0_u20) (by simp only [List.getElem?_toArray, List.getElem?_cons_succ, List.getElem?_cons_zero]; exact rfl) ?s1_u20 ?s2_u20 ?s3_u20 ?s4_u20 ?s5_u20 ?s6_u20 ?s7_u20
        case s1_u20 => kernel_rfl
        case s2_u20 => kernel_rfl
        case s3_u20 => kernel_rfl
        case s4_u20 => exact fun _ _ _ h => h
        case s5_u20 => exact Or.inl ⟨rfl, by intro w hSw; (try dsimp only at hSw); go_simp; try with_reducible rfl⟩
        case s6_u20 => assumption
        try simp only [Act.put, List.setIfInBounds_toArray, List.set_cons_zero, List.set_cons_succ]
        with_reducible refine takeI2 (i := 19) (v := ?sv_u21) (oi := ?s0_u21) (by simp only [List.getElem?_toArray, List.getElem?_cons_succ, List.getElem?_cons_zero]; exact rfl) ?s1_u21 ?s2_u21 ?s3_u21 ?s4_u21 ?s5_u21 ?s6_u21 ?s7_u21
        case s1_u21 => kernel_rfl
        case s2_u21 => kernel_rfl
        case s3_u21 => kernel_rfl
        case s4_u21 => exact fun _ _ _ h => h
        case s5_u21 => exact Or.inl ⟨rfl, by intro w hSw; (try dsimp only at hSw); go_simp; try with_reducible rfl⟩
        case s6_u21 => assumption
        try simp only [Act.put, List.setIfInBounds_toArray, List.set_cons_zero, List.set_cons_succ]
        with_reducible refine wpAnyH_ready (rs := [20]) ?s1_u22 one_ne ?s2_u22
        case s1_u22 => kernel_rfl
        with_reducible refine AllReadyH.cons (o := ?s0_u22) (by simp only [List.getElem?_toArray, List.getElem?_cons_succ, List.getElem?_cons_zero]; exact rfl) (fun K hK => ?s3_u22) AllReadyH.nil
        go_simp
        refine (HSA.out _ _ _ hX.2.1 hL.2.1).mono ?_
        rintro e wa ⟨rfl, hd⟩
        have hb := hd.below
        clear hd
        replace hX := hX.below hb
        replace hl := hl.below hb
        replace hr := hr.below hb
        replace hL := hL.below hb
        replace hR := hR.below hb
        replace hB := bvia hB hb
        clear hb
        go_wp2_with fail
        with_reducible refine hK.out _ _ ?s1_u23 (fun hHeld => ?s2_u23)
        case s1_u23 => (try dsimp only); exact ⟨hX.1, hL.1, hR.1.1, hR.1.2.1⟩
        clear hK K
        try simp only [Act.put, List.setIfInBounds_toArray, List.set_cons_zero, List.set_cons_succ]
        with_reducible refine takeI2 (i := 21) (v := ?sv_u24) (oi := ?s0_u24) (by simp only [List.getElem?_toArray, List.getElem?_cons_succ, List.getElem?_cons_zero]; exact rfl) ?s1_u24 ?s2_u24 ?s3_u24 ?s4_u24 ?s5_u24 ?s6_u24 ?s7_u24
        case s1_u24 => kernel_rfl
        case s2_u24 => kernel_rfl
        case s3_u24 => kernel_rfl
        case s4_u24 => exact fun _ _ _ h => h
        case s5_u24 => exact Or.inl ⟨rfl, by intro w hSw; (try dsimp only at hSw); go_simp; try with_reducible rfl⟩
        case s6_u24 => assumption
        try simp only [Act.put, List.setIfInBounds_toArray, List.set_cons_zero, List.set_cons_succ]
        with_reducible refine takeI2 (i := 22) (v := ?sv_u25) (oi := ?s0_u25) (by simp only [List.getElem?_toArray, List.getElem?_cons_succ, List.getElem?_cons_zero]; exact rfl) ?s1_u25 ?s2_u25 ?s3_u25 ?s4_u25 ?s5_u25 ?s6_u25 ?s7_u25
        case s1_u25 => kernel_rfl
        case s2_u25 => kernel_rfl
        case s3_u25 => kernel_rfl
        case s4_u25 => exact fun _ _ _ h => h
        case s5_u25 => exact Or.inl ⟨rfl, by intro w hSw; (try dsimp only at hSw); go_simp; try with_reducible rfl⟩
        case s6_u25 => assumption
        try simp only [Act.put, List.setIfInBounds_toArray, List.set_cons_zero, List.set_cons_succ]
        with_reducible refine takeI2 (i := 23) (v := ?sv_u26) (oi := ?s0_u26) (by simp only [List.getElem?_toArray, List.getElem?_cons_succ, List.getElem?_cons_zero]; exact rfl) ?s1_u26 ?s2_u26 ?s3_u26 ?s4_u26 ?s5_u26 ?s6_u26 ?s7_u26
        case s1_u26 => kernel_rfl
        case s2_u26 => kernel_rfl
        case s3_u26 => kernel_rfl
        case s4_u26 => exact fun _ _ _ h => h
        case s5_u26 => exact Or.inl ⟨rfl, by intro w hSw; (try dsimp only at hSw); go_simp; try with_reducible rfl⟩
        case s6_u26 => assumption
        try simp only [Act.put, List.setIfInBounds_toArray, List.set_cons_zero, List.set_cons_succ]
        with_reducible refine takeI2 (i := 24) (v := ?sv_u27) (oi := ?s0_u27) (by simp only [List.getElem?_toArray, List.getElem?_cons_succ, List.getElem?_cons_zero]; exact rfl) ?s1_u27 ?s2_u27 ?s3_u27 ?s4_u27 ?s5_u27 ?s6_u27 ?s7_u27
        case s1_u27 => kernel_rfl
        case s2_u27 => kernel_rfl
        case s3_u27 => kernel_rfl
        case s4_u27 => exact fun _ _ _ h => h
        case s5_u27 => exact Or.inl ⟨rfl, by intro w hSw; (try dsimp only at hSw); go_simp; try with_reducible rfl⟩
        case s6_u27 => assumption
        try simp only [Act.put, List.setIfInBounds_toArray, List.set_cons_zero, List.set_cons_succ]
        with_reducible refine takeI2 (i := 25) (v := ?sv_u28) (oi := ?s0_u28) (by simp only [List.getElem?_toArray, List.getElem?_cons_succ, List.getElem?_cons_zero]; exact rfl) ?s1_u28 ?s2_u28 ?s3_u28 ?s4_u28 ?s5_u28 ?s6_u28 ?s7_u28
        case s1_u28 => kernel_rfl
        case s2_u28 => kernel_rfl
        case s3_u28 => kernel_rfl
        case s4_u28 => exact fun _ _ _ h => h
        case s5_u28 => exact Or.inl ⟨rfl, by intro w hSw; (try dsimp only at hSw); go_simp; try with_reducible rfl⟩
        case s6_u28 => assumption
        try simp only [Act.put, List.setIfInBounds_toArray, List.set_cons_zero, List.set_cons_succ]
        with_reducible refine takeI2 (i := 26) (v := ?sv_u29) (oi := ?s0_u29) (by simp only [List.getElem?_toArray, List.getElem?_cons_succ, List.getElem?_cons_zero]; exact rfl) ?s1_u29 ?s2_u29 ?s3_u29 ?s4_u29 ?s5_u29 ?s6_u29 ?s7_u29
        case s1_u29 => kernel_rfl
        case s2_u29 => kernel_rfl
        case s3_u29 => kernel_rfl
        case s4_u29 => exact fun _ _ _ h => h
        case s5_u29 => exact Or.inl ⟨rfl, by intro w hSw; (try dsimp only at hSw); go_simp; try with_reducible rfl⟩
        case s6_u29 => assumption
        try simp only [Act.put, List.setIfInBounds_toArray, List.set_cons_zero, List.set_cons_succ]
        with_reducible refine takeI2 (i := 27) (v := ?sv_u30) (oi := ?s0_u30) (by simp only [List.getElem?_toArray, List.getElem?_cons_succ, List.getElem?_cons_zero]; exact rfl) ?s1_u30 ?s2_u30 ?s3_u30 ?s4_u30 ?s5_u30 ?s6_u30 ?s7_u30
        case s1_u30 => kernel_rfl
        case s2_u30 => kernel_rfl
        case s3_u30 => kernel_rfl
        case s4_u30 => exact fun _ _ _ h => h
        case s5_u30 => exact Or.inl ⟨rfl, by intro w hSw; (try dsimp only at hSw); go_simp; try with_reducible rfl⟩
        case s6_u30 => assumption
        try simp only [Act.put, List.setIfInBounds_toArray, List.set_cons_zero, List.set_cons_succ]
        with_reducible refine takeI2 (i := 28) (v := ?sv_u31) (oi := ?s0_u31) (by simp only [List.getElem?_toArray, List.getElem?_cons_succ, List.getElem?_cons_zero]; exact rfl) ?s1_u31 ?s2_u31 ?s3_u31 ?s4_u31 ?s5_u31 ?s6_u31 ?s7_u31
        case s1_u31 => kernel_rfl
        case s2_u31 => kernel_rfl
        case s3_u31 => kernel_rfl
        case s4_u31 => exact fun _ _ _ h => h
        case s5_u31 => exact Or.inl ⟨rfl, by intro w hSw; (try dsimp only at hSw); go_simp; try with_reducible rfl⟩
        case s6_u31 => assumption
        try simp only [Act.put, List.setIfInBounds_toArray, List.set_cons_zero, List.set_cons_succ]
        with_reducible refine takeI2 (i := 29) (v := ?sv_u32) (oi := ?s0_u32) (by simp only [List.getElem?_toArray, List.getElem?_cons_succ, List.getElem?_cons_zero]; exact rfl) ?s1_u32 ?s2_u32 ?s3_u32 ?s4_u32 ?s5_u32 ?s6_u32 ?s7_u32
        case s1_u32 => kernel_rfl
        case s2_u32 => kernel_rfl
        case s3_u32 => kernel_rfl
        case s4_u32 => exact fun _ _ _ h => h
        case s5_u32 => exact Or.inl ⟨rfl, by intro w hSw; (try dsimp only at hSw); go_simp; try with_reducible rfl⟩
        case s6_u32 => assumption
        try simp only [Act.put, List.setIfInBounds_toArray, List.set_cons_zero, List.set_cons_succ]
        with_reducible refine takeI2 (i := 30) (v := ?sv_u33) (oi := ?s0_u33) (by simp only [List.getElem?_toArray, List.getElem?_cons_succ, List.getElem?_cons_zero]; exact rfl) ?s1_u33 ?s2_u33 ?s3_u33 ?s4_u33 ?s5_u33 ?s6_u33 ?s7_u33
        case s1_u33 => kernel_rfl
        case s2_u33 => kernel_rfl
        case s3_u33 => kernel_rfl
        case s4_u33 => exact fun _ _ _ h => h
        case s5_u33 => exact Or.inl ⟨rfl, by intro w hSw; (try dsimp only at hSw); go_simp; try with_reducible rfl⟩
        case s6_u33 => assumption
        try simp only [Act.put, List.setIfInBounds_toArray, List.set_cons_zero, List.set_cons_succ]
        with_reducible refine wpAnyH_ready (rs := [31]) ?s1_u34 one_ne ?s2_u34
        case s1_u34 => kernel_rfl
        with_reducible refine AllReadyH.cons (o := ?s0_u34) (by simp only [List.getElem?_toArray, List.getElem?_cons_succ, List.getElem?_cons_zero]; exact rfl) (fun K hK => ?s3_u34) AllReadyH.nil
        go_simp
        refine (HSP.out _ _ _ hX.2.2 hL.2.2).mono ?_
        rintro e wb ⟨rfl, hd⟩
        have hb := hd.below
        clear hd
        replace hX := hX.below hb
        replace hl := hl.below hb
        replace hr := hr.below hb
        replace hL := hL.below hb
        replace hR := hR.below hb
        replace hB := bvia hB hb
        clear hb
        go_wp2_with fail
        with_reducible refine hK.out _ _ ?s1_u35 (fun hHeld => ?s2_u35)
        case s1_u35 => (try dsimp only); exact ⟨hX.1, hL.1, hR.1.1, hR.1.2.1⟩
        clear hK K
        try simp only [Act.put, List.setIfInBounds_toArray, List.set_cons_zero, List.set_cons_succ]
        with_reducible refine takeI2 (i := 32) (v := ?sv_u36) (oi := ?s0_u36) (by simp only [List.getElem?_toArray, List.getElem?_cons_succ, List.getElem?_cons_zero]; exact rfl) ?s1_u36 ?s2_u36 ?s3_u36 ?s4_u36 ?s5_u36 ?s6_u36 ?s7_u36
        case s1_u36 => kernel_rfl
        case s2_u36 => kernel_rfl
        case s3_u36 => kernel_rfl
        case s4_u36 => exact fun _ _ _ h => h
        case s5_u36 => exact Or.inl ⟨rfl, by intro w hSw; (try dsimp only at hSw); go_simp; try with_reducible rfl⟩
        case s6_u36 => assumption
        try simp only [Act.put, List.setIfInBounds_toArray, List.set_cons_zero, List.set_cons_succ]
        with_reducible refine takeI2 (i := 33) (v := ?sv_u37) (oi := ?s0_u37) (by simp only [List.getElem?_toArray, List.getElem?_cons_succ, List.getElem?_cons_zero]; exact rfl) ?s1_u37 ?s2_u37 ?s3_u37 ?s4_u37 ?s5_u37 ?s6_u37 ?s7_u37
        case s1_u37 => kernel_rfl
        case s2_u37 => kernel_rfl
        case s3_u37 => kernel_rfl
        case s4_u37 => exact fun _ _ _ h => h
        case s5_u37 => exact Or.inl ⟨rfl, by intro w hSw; (try dsimp only at hSw); go_simp; try with_reducible rfl⟩
        case s6_u37 => assumption
        try simp only [Act.put, List.setIfInBounds_toArray, List.set_cons_zero, List.set_cons_succ]
        with_reducible refine takeI2 (i := 34) (v := ?sv_u38) (oi := ?s0_u38) (by simp only [List.getElem?_toArray, List.getElem?_cons_succ, List.getElem?_cons_zero]; exact rfl) ?s1_u38 ?s2_u38 ?s3_u38 ?s4_u38 ?s5_u38 ?s6_u38 ?s7_u38
        case s1_u38 => kernel_rfl
        case s2_u38 => kernel_rfl
        case s3_u38 => kernel_rfl
        case s4_u38 => exact fun _ _ _ h => h
        case s5_u38 => exact Or.inl ⟨rfl, by intro w hSw; (try dsimp only at hSw); go_simp; try with_reducible rfl⟩
        case s6_u38 => assumption
        try simp only [Act.put, List.setIfInBounds_toArray, List.set_cons_zero, List.set_cons_succ]
        with_reducible refine takeI2 (i := 35) (v := ?sv_u39) (oi := ?s0_u39) (by simp only [List.getElem?_toArray, List.getElem?_cons_succ, List.getElem?_cons_zero]; exact rfl) ?s1_u39 ?s2_u39 ?s3_u39 ?s4_u39 ?s5_u39 ?s6_u39 ?s7_u39
        case s1_u39 => kernel_rfl
        case s2_u39 => kernel_rfl
        case s3_u39 => kernel_rfl
        case s4_u39 => exact fun _ _ _ h => h
        case s5_u39 => exact Or.inl ⟨rfl, by intro w hSw; (try dsimp only at hSw); go_simp; try with_reducible rfl⟩
        case s6_u39 => assumption
        try simp only [Act.put, List.setIfInBounds_toArray, List.set_cons_zero, List.set_cons_succ]
        with_reducible refine takeI2 (i := 36) (v := ?sv_u40) (oi := ?s0_u40) (by simp only [List.getElem?_toArray, List.getElem?_cons_succ, List.getElem?_cons_zero]; exact rfl) ?s1_u40 ?s2_u40 ?s3_u40 ?s4_u40 ?s5_u40 ?s6_u40 ?s7_u40
        case s1_u40 => kernel_rfl
        case s2_u40 => kernel_rfl
        case s3_u40 => kernel_rfl
        case s4_u40 => exact fun _ _ _ h => h
        case s5_u40 => exact Or.inl ⟨rfl, by intro w hSw; (try dsimp only at hSw); go_simp; try with_reducible rfl⟩
        case s6_u40 => assumption
        try simp only [Act.put, List.setIfInBounds_toArray, List.set_cons_zero, List.set_cons_succ]
        with_reducible refine takeI2 (i := 37) (v := ?sv_u41) (oi := ?s0_u41) (by simp only [List.getElem?_toArray, List.getElem?_cons_succ, List.getElem?_cons_zero]; exact rfl) ?s1_u41 ?s2_u41 ?s3_u41 ?s4_u41 ?s5_u41 ?s6_u41 ?s7_u41
        case s1_u41 => kernel_rfl
        case s2_u41 => kernel_rfl
        case s3_u41 => kernel_rfl
        case s4_u41 => exact fun _ _ _ h => h
        case s5_u41 => exact Or.inl ⟨rfl, by intro w hSw; (try dsimp only at hSw); go_simp; try with_reducible rfl⟩
        case s6_u41 => assumption
        try simp only [Act.put, List.setIfInBounds_toArray, List.set_cons_zero, List.set_cons_succ]
        with_reducible refine takeI2 (i := 38) (v := ?sv_u42) (oi := ?s0_u42) (by simp only [List.getElem?_toArray, List.getElem?_cons_succ, List.getElem?_cons_zero]; exact rfl) ?s1_u42 ?s2_u42 ?s3_u42 ?s4_u42 ?s5_u42 ?s6_u42 ?s7_u42
        case s1_u42 => kernel_rfl
        case s2_u42 => kernel_rfl
        case s3_u42 => kernel_rfl
        case s4_u42 => exact fun _ _ _ h => h
        case s5_u42 => exact Or.inl ⟨rfl, by intro w hSw; (try dsimp only at hSw); go_simp; try with_reducible rfl⟩
        case s6_u42 => assumption
        try simp only [Act.put, List.setIfInBounds_toArray, List.set_cons_zero, List.set_cons_succ]
        with_reducible refine takeI2 (i := 39) (v := ?sv_u43) (oi := ?s0_u43) (by simp only [List.getElem?_toArray, List.getElem?_cons_succ, List.getElem?_cons_zero]; exact rfl) ?s1_u43 ?s2_u43 ?s3_u43 ?s4_u43 ?s5_u43 ?s6_u43 ?s7_u43
        case s1_u43 => kernel_rfl
        case s2_u43 => kernel_rfl
        case s3_u43 => kernel_rfl
        case s4_u43 => exact fun _ _ _ h => h
        case s5_u43 => exact Or.inl ⟨rfl, by intro w hSw; (try dsimp only at hSw); go_simp; try with_reducible rfl⟩
        case s6_u43 => assumption
        try simp only [Act.put, List.setIfInBounds_toArray, List.set_cons_zero, List.set_cons_succ]
        with_reducible refine takeI2 (i := 40) (v := ?sv_u44) (oi := ?s0_u44) (by simp only [List.getElem?_toArray, List.getElem?_cons_succ, List.getElem?_cons_zero]; exact rfl) ?s1_u44 ?s2_u44 ?s3_u44 ?s4_u44 ?s5_u44 ?s6_u44 ?s7_u44
        case s1_u44 => kernel_rfl
        case s2_u44 => kernel_rfl
        case s3_u44 => kernel_rfl
        case s4_u44 => exact fun _ _ _ h => h
        case s5_u44 => exact Or.inl ⟨rfl, by intro w hSw; (try dsimp only at hSw); go_simp; try with_reducible rfl⟩
        case s6_u44 => assumption
        try simp only [Act.put, List.setIfInBounds_toArray, List.set_cons_zero, List.set_cons_succ]
        with_reducible refine takeI2 (i := 41) (v := ?sv_u45) (oi := ?s0_u45) (by simp only [List.getElem?_toArray, List.getElem?_cons_succ, List.getElem?_cons_zero]; exact rfl) ?s1_u45 ?s2_u45 ?s3_u45 ?s4_u45 ?s5_u45 ?s6_u45 ?s7_u45
        case s1_u45 => kernel_rfl
        case s2_u45 => kernel_rfl
        case s3_u45 => kernel_rfl
        case s4_u45 => exact fun _ _ _ h => h
        case s5_u45 => exact Or.inl ⟨rfl, by intro w hSw; (try dsimp only at hSw); go_simp; try with_reducible rfl⟩
        case s6_u45 => assumption
        try simp only [Act.put, List.setIfInBounds_toArray, List.set_cons_zero, List.set_cons_succ]
        with_reducible refine takeI2 (i := 42) (v := ?sv_u46) (oi := ?s0_u46) (by simp only [List.getElem?_toArray, List.getElem?_cons_succ, List.getElem?_cons_zero]; exact rfl) ?s1_u46 ?s2_u46 ?s3_u46 ?s4_u46 ?s5_u46 ?s6_u46 ?s7_u46
        case s1_u46 => kernel_rfl
        case s2_u46 => kernel_rfl
        case s3_u46 => kernel_rfl
        case s4_u46 => exact fun _ _ _ h => h
        case s5_u46 => exact Or.inl ⟨rfl, by intro w hSw; (try dsimp only at hSw); go_simp; try with_reducible rfl⟩
        case s6_u46 => assumption
        try simp only [Act.put, List.setIfInBounds_toArray, List.set_cons_zero, List.set_cons_succ]
        with_reducible refine takeI2 (i := 43) (v := ?sv_u47) (oi := ?s0_u47) (by simp only [List.getElem?_toArray, List.getElem?_cons_succ, List.getElem?_cons_zero]; exact rfl) ?s1_u47 ?s2_u47 ?s3_u47 ?s4_u47 ?s5_u47 ?s6_u47 ?s7_u47
        case s1_u47 => kernel_rfl
        case s2_u47 => kernel_rfl
        case s3_u47 => kernel_rfl
        case s4_u47 => exact fun _ _ _ h => h
        case s5_u47 => exact Or.inl ⟨rfl, by intro w hSw; (try dsimp only at hSw); go_simp; try with_reducible rfl⟩
        case s6_u47 => assumption
        try simp only [Act.put, List.setIfInBounds_toArray, List.set_cons_zero, List.set_cons_succ]
        with_reducible refine takeI2 (i := 44) (v := ?sv_u48) (oi := ?s0_u48) (by simp only [List.getElem?_toArray, List.getElem?_cons_succ, List.getElem?_cons_zero]; exact rfl) ?s1_u48 ?s2_u48 ?s3_u48 ?s4_u48 ?s5_u48 ?s6_u48 ?s7_u48
        case s1_u48 => kernel_rfl
        case s2_u48 => kernel_rfl
        case s3_u48 => kernel_rfl
        case s4_u48 => exact fun _ _ _ h => h
        case s5_u48 => exact Or.inl ⟨rfl, by intro w hSw; (try dsimp only at hSw); go_simp; try with_reducible rfl⟩
        case s6_u48 => assumption
        try simp only [Act.put, List.setIfInBounds_toArray, List.set_cons_zero, List.set_cons_succ]
        with_reducible refine takeI2 (i := 45) (v := ?sv_u49) (oi := ?s0_u49) (by simp only [List.getElem?_toArray, List.getElem?_cons_succ, List.getElem?_cons_zero]; exact rfl) ?s1_u49 ?s2_u49 ?s3_u49 ?s4_u49 ?s5_u49 ?s6_u49 ?s7_u49
        case s1_u49 => kernel_rfl
        case s2_u49 => kernel_rfl
        case s3_u49 => kernel_rfl
        case s4_u49 => exact fun _ _ _ h => h
        case s5_u49 => exact Or.inl ⟨rfl, by intro w hSw; (try dsimp only at hSw); go_simp; try with_reducible rfl⟩
        case s6_u49 => assumption
        try simp only [Act.put, List.setIfInBounds_toArray, List.set_cons_zero, List.set_cons_succ]
        with_reducible refine takeI2 (i := 46) (v := ?sv_u50) (oi := ?s0_u50) (by simp only [List.getElem?_toArray, List.getElem?_cons_succ, List.getElem?_cons_zero]; exact rfl) ?s1_u50 ?s2_u50 ?s3_u50 ?s4_u50 ?s5_u50 ?s6_u50 ?s7_u50
        case s1_u50 => kernel_rfl
        case s2_u50 => kernel_rfl
        case s3_u50 => kernel_rfl
        case s4_u50 => exact fun _ _ _ h => h
        case s5_u50 => exact Or.inl ⟨rfl, by intro w hSw; (try dsimp only at hSw); go_simp; try with_reducible rfl⟩
        case s6_u50 => assumption
        try simp only [Act.put, List.setIfInBounds_toArray, List.set_cons_zero, List.set_cons_succ]
        with_reducible refine takeI2 (i := 47) (v := ?sv_u51) (oi := ?s0_u51) (by simp only [List.getElem?_toArray, List.getElem?_cons_succ, List.getElem?_cons_zero]; exact rfl) ?s1_u51 ?s2_u51 ?s3_u51 ?s4_u51 ?s5_u51 ?s6_u51 ?s7_u51
        case s1_u51 => kernel_rfl
        case s2_u51 => kernel_rfl
        case s3_u51 => kernel_rfl
        case s4_u51 => exact fun _ _ _ h => h
        case s5_u51 => exact Or.inl ⟨rfl, by intro w hSw; (try dsimp only at hSw); go_simp; try with_reducible rfl⟩
        case s6_u51 => assumption
        try simp only [Act.put, List.setIfInBounds_toArray, List.set_cons_zero, List.set_cons_succ]
        with_reducible refine takeI2 (i := 48) (v := ?sv_u52) (oi := ?s0_u52) (by simp only [List.getElem?_toArray, List.getElem?_cons_succ, List.getElem?_cons_zero]; exact rfl) ?s1_u52 ?s2_u52 ?s3_u52 ?s4_u52 ?s5_u52 ?s6_u52 ?s7_u52
        case s1_u52 => kernel_rfl
        case s2_u52 => kernel_rfl
        case s3_u52 => kernel_rfl
        case s4_u52 => exact fun _ _ _ h => h
        case s5_u52 => exact Or.inl ⟨rfl, by intro w hSw; (try dsimp only at hSw); go_simp; try with_reducible rfl⟩
        case s6_u52 => assumption
        try simp only [Act.put, List.setIfInBounds_toArray, List.set_cons_zero, List.set_cons_succ]
        with_reducible refine takeI2 (i := 49) (v := ?sv_u53) (oi := ?s0_u53) (by simp only [List.getElem?_toArray, List.getElem?_cons_succ, List.getElem?_cons_zero]; exact rfl) ?s1_u53 ?s2_u53 ?s3_u53 ?s4_u53 ?s5_u53 ?s6_u53 ?s7_u53
        case s1_u53 => kernel_rfl
        case s2_u53 => kernel_rfl
        case s3_u53 => kernel_rfl
        case s4_u53 => exact fun _ _ _ h => h
        case s5_u53 => exact Or.inl ⟨rfl, by intro w hSw; (try dsimp only at hSw); go_simp; try with_reducible rfl⟩
        case s6_u53 => assumption
        try simp only [Act.put, List.setIfInBounds_toArray, List.set_cons_zero, List.set_cons_succ]
        with_reducible refine takeI2 (i := 50) (v := ?sv_u54) (oi := ?s0_u54) (by simp only [List.getElem?_toArray, List.getElem?_cons_succ, List.getElem?_cons_zero]; exact rfl) ?s1_u54 ?s2_u54 ?s3_u54 ?s4_u54 ?s5_u54 ?s6_u54 ?s7_u54
        case s1_u54 => kernel_rfl
        case s2_u54 => kernel_rfl
        case s3_u54 => kernel_rfl
        case s4_u54 => exact fun _ _ _ h => h
        case s5_u54 => exact Or.inl ⟨rfl, by intro w hSw; (try dsimp only at hSw); go_simp; try with_reducible rfl⟩
        case s6_u54 => assumption
        try simp only [Act.put, List.setIfInBounds_toArray, List.set_cons_zero, List.set_cons_succ]
        with_reducible refine takeI2 (i := 51) (v := ?sv_u55) (oi := ?s0_u55) (by simp only [List.getElem?_toArray, List.getElem?_cons_succ, List.getElem?_cons_zero]; exact rfl) ?s1_u55 ?s2_u55 ?s3_u55 ?s4_u55 ?s5_u55 ?s6_u55 ?s7_u55
        case s1_u55 => kernel_rfl
        case s2_u55 => kernel_rfl
        case s3_u55 => kernel_rfl
        case s4_u55 => exact fun _ _ _ h => h
        case s5_u55 => exact Or.inl ⟨rfl, by intro w hSw; (try dsimp only at hSw); go_simp; try with_reducible rfl⟩
        case s6_u55 => assumption
        try simp only [Act.put, List.setIfInBounds_toArray, List.set_cons_zero, List.set_cons_succ]
        with_reducible refine takeI2 (i := 52) (v := ?sv_u56) (oi := ?s0_u56) (by simp only [List.getElem?_toArray, List.getElem?_cons_succ, List.getElem?_cons_zero]; exact rfl) ?s1_u56 ?s2_u56 ?s3_u56 ?s4_u56 ?s5_u56 ?s6_u56 ?s7_u56
        case s1_u56 => kernel_rfl
        case s2_u56 => kernel_rfl
        case s3_u56 => kernel_rfl
        case s4_u56 => exact fun _ _ _ h => h
        case s5_u56 => exact Or.inl ⟨rfl, by intro w hSw; (try dsimp only at hSw); go_simp; try with_reducible rfl⟩
        case s6_u56 => assumption
        try simp only [Act.put, List.setIfInBounds_toArray, List.set_cons_zero, List.set_cons_succ]
        with_reducible refine takeI2 (i := 53) (v := ?sv_u57) (oi := ?s0_u57) (by simp only [List.getElem?_toArray, List.getElem?_cons_succ, List.getElem?_cons_zero]; exact rfl) ?s1_u57 ?s2_u57 ?s3_u57 ?s4_u57 ?s5_u57 ?s6_u57 ?s7_u57
        case s1_u57 => kernel_rfl
        case s2_u57 => kernel_rfl
        case s3_u57 => kernel_rfl
        case s4_u57 => exact fun _ _ _ h => h
        case s5_u57 => exact Or.inl ⟨rfl, by intro w hSw; (try dsimp only at hSw); go_simp; try with_reducible rfl⟩
        case s6_u57 => assumption
        try simp only [Act.put, List.setIfInBounds_toArray, List.set_cons_zero, List.set_cons_succ]
        with_reducible refine takeI2 (i := 54) (v := ?sv_u58) (oi := ?s0_u58) (by simp only [List.getElem?_toArray, List.getElem?_cons_succ, List.getElem?_cons_zero]; exact rfl) ?s1_u58 ?s2_u58 ?s3_u58 ?s4_u58 ?s5_u58 ?s6_u58 ?s7_u58
        case s1_u58 => kernel_rfl
        case s2_u58 => kernel_rfl
        case s3_u58 => kernel_rfl
        case s4_u58 => exact fun _ _ _ h => h
        case s5_u58 => exact Or.inl ⟨rfl, by intro w hSw; (try dsimp only at hSw); go_simp; try with_reducible rfl⟩
        case s6_u58 => assumption
        try simp only [Act.put, List.setIfInBounds_toArray, List.set_cons_zero, List.set_cons_succ]
        with_reducible refine takeI2 (i := 55) (v := ?sv_u59) (oi := ?s0_u59) (by simp only [List.getElem?_toArray, List.getElem?_cons_succ, List.getElem?_cons_zero]; exact rfl) ?s1_u59 ?s2_u59 ?s3_u59 ?s4_u59 ?s5_u59 ?s6_u59 ?s7_u59
        case s1_u59 => kernel_rfl
        case s2_u59 => kernel_rfl
        case s3_u59 => kernel_rfl
        case s4_u59 => exact fun _ _ _ h => h
        case s5_u59 => exact Or.inl ⟨rfl, by intro w hSw; (try dsimp only at hSw); go_simp; try with_reducible rfl⟩
        case s6_u59 => assumption
        try simp only [Act.put, List.setIfInBounds_toArray, List.set_cons_zero, List.set_cons_succ]
        with_reducible refine takeI2 (i := 56) (v := ?sv_u60) (oi := ?s0_u60) (by simp only [List.getElem?_toArray, List.getElem?_cons_succ, List.getElem?_cons_zero]; exact rfl) ?s1_u60 ?s2_u60 ?s3_u60 ?s4_u60 ?s5_u60 ?s6_u60 ?s7_u60
        case s1_u60 => kernel_rfl
        case s2_u60 => kernel_rfl
        case s3_u60 => kernel_rfl
        case s4_u60 => exact fun _ _ _ h => h
        case s5_u60 => exact Or.inl ⟨rfl, by intro w hSw; (try dsimp only at hSw); go_simp; try with_reducible rfl⟩
        case s6_u60 => assumption
        try simp only [Act.put, List.setIfInBounds_toArray, List.set_cons_zero, List.set_cons_succ]
        with_reducible refine takeI2 (i := 57) (v := ?sv_u61) (oi := ?s0_u61) (by simp only [List.getElem?_toArray, List.getElem?_cons_succ, List.getElem?_cons_zero]; exact rfl) ?s1_u61 ?s2_u61 ?s3_u61 ?s4_u61 ?s5_u61 ?s6_u61 ?s7_u61
        case s1_u61 => kernel_rfl
        case s2_u61 => kernel_rfl
        case s3_u61 => kernel_rfl
        case s4_u61 => exact fun _ _ _ h => h
        case s5_u61 => exact Or.inl ⟨rfl, by intro w hSw; (try dsimp only at hSw); go_simp; try with_reducible rfl⟩
        case s6_u61 => assumption
        try simp only [Act.put, List.setIfInBounds_toArray, List.set_cons_zero, List.set_cons_succ]
        with_reducible refine wpAnyH_ready (rs := [58]) ?s1_u62 one_ne ?s2_u62
        case s1_u62 => kernel_rfl
        with_reducible refine AllReadyH.cons (o := ?s0_u62) (by simp only [List.getElem?_toArray, List.getElem?_cons_succ, List.getElem?_cons_zero]; exact rfl) (fun K hK => ?s3_u62) AllReadyH.nil
        go_simp
        refine (HSA.out _ _ _ hR.2.1 hL.2.1).mono ?_
        rintro e wc ⟨rfl, hd⟩
        have hb := hd.below
        clear hd
        replace hX := hX.below hb
        replace hl := hl.below hb
        replace hr := hr.below hb
        replace hL := hL.below hb
        replace hR := hR.below hb
        replace hB := bvia hB hb
        clear hb
        go_wp2_with fail
        with_reducible refine hK.out _ _ ?s1_u63 (fun hHeld => ?s2_u63)
        case s1_u63 => (try dsimp only); exact ⟨hX.1, hL.1, hR.1.1, hR.1.2.1⟩
        clear hK K
        try simp only [Act.put, List.setIfInBounds_toArray, List.set_cons_zero, List.set_cons_succ]
        with_reducible refine takeI2 (i := 59) (v := ?sv_u64) (oi := ?s0_u64) (by simp only [List.getElem?_toArray, List.getElem?_cons_succ, List.getElem?_cons_zero]; exact rfl) ?s1_u64 ?s2_u64 ?s3_u64 ?s4_u64 ?s5_u64 ?s6_u64 ?s7_u64
        case s1_u64 => kernel_rfl
        case s2_u64 => kernel_rfl
        case s3_u64 => kernel_rfl
        case s4_u64 => exact fun _ _ _ h => h
        case s5_u64 => exact Or.inl ⟨rfl, by intro w hSw; (try dsimp only at hSw); go_simp; try with_reducible rfl⟩
        case s6_u64 => assumption
        try simp only [Act.put, List.setIfInBounds_toArray, List.set_cons_zero, List.set_cons_succ]
        with_reducible refine takeI2 (i := 60) (v := ?sv_u65) (oi := ?s0_u65) (by simp only [List.getElem?_toArray, List.getElem?_cons_succ, List.getElem?_cons_zero]; exact rfl) ?s1_u65 ?s2_u65 ?s3_u65 ?s4_u65 ?s5_u65 ?s6_u65 ?s7_u65
        case s1_u65 => kernel_rfl
        case s2_u65 => kernel_rfl
        case s3_u65 => kernel_rfl
        case s4_u65 => exact fun _ _ _ h => h
        case s5_u65 => exact Or.inl ⟨rfl, by intro w hSw; (try dsimp only at hSw); go_simp; try with_reducible rfl⟩
        case s6_u65 => assumption
        try simp only [Act.put, List.setIfInBounds_toArray, List.set_cons_zero, List.set_cons_succ]
        with_reducible refine wpAnyH_done ?s1_u66 ?s2_u66 _
        case s1_u66 => kernel_rfl
        go_wp2_with (fail)
        clear hX hR HSA
        obtain ⟨c0, c1, c2⟩ := hL.1
        go_wp2_with (fail)
        refine (HNT.out _ _ hL.2.2 (tabIs_below HT.out.1 hB)).mono ?_
        rintro e wd ⟨rfl, hb⟩
        replace hl := hl.below hb
        replace hr := hr.below hb
        replace hL := hL.below hb
        replace hB := bvia hB hb
        clear hb HNT c0 c1 c2
        go_wp2_with (fail)
        refine (HRN.out _ (tabIs_below HT.out.1 hB) (HasErr.below HT.out.2.1 hB) (HasMax.below HT.out.2.2 hB)).mono ?_
        rintro e we ⟨ux, rfl, oN, hb⟩
        replace hl := hl.below hb
        replace hr := hr.below hb
        replace hL := hL.below hb
        replace hB := bvia hB hb
        have hN := oN.rd
        clear hb HRN oN
        obtain ⟨n1, n2, rfl⟩ := hN.shape
        obtain ⟨c0, c1, c2⟩ := hL.1
        go_wp2_with (fail)
        refine (HSP.out _ _ _ hN hL.2.2).mono ?_
        rintro e wf ⟨rfl, hd⟩
        have hb := hd.below
        replace hl := hl.below hb
        replace hr := hr.below hb
        replace hB := bvia hB hb
        clear hb hd hL hN c0 c1 c2
        go_wp2_with (fail)
        exact ⟨⟨k + 1, by omega, by go_num, hB, hl, hr⟩, by simp [intOf]; omega⟩
      · clear hl hr HK
        have q1 := below_alloc1 wr (.cells #[.int .i64 0, .int .i64 2] 3)
        have hl1 : OwI (wr.alloc (.cells #[.int .i64 0, .int .i64 2] 3)) wr.heap.size (.slice (some ⟨wr.heap.size, 0, none⟩) 2 2) [0, 2] := World.ownsRow_lit wr #[.int .i64 0, .int .i64 2] 2 (Nat.le_refl _) (by rw [maxLen_eq]; omega) rfl
        have q2 := below_alloc1 (wr.alloc (.cells #[.int .i64 0, .int .i64 2] 3)) (.cells #[.int .i64 1] 3)
        have hl2 : OwI ((wr.alloc (.cells #[.int .i64 0, .int .i64 2] 3)).alloc (.cells #[.int .i64 1] 3)) (wr.heap.size + 1) (.slice (some ⟨wr.heap.size + 1, 0, none⟩) 1 1) [1] := by
          have h : OwI ((wr.alloc (.cells #[.int .i64 0, .int .i64 2] 3)).alloc (.cells #[.int .i64 1] 3)) (wr.heap.size + 1) (.slice (some ⟨(wr.alloc (.cells #[.int .i64 0, .int .i64 2] 3)).heap.size, 0, none⟩) 1 1) [1] := World.ownsRow_lit (wr.alloc (.cells #[.int .i64 0, .int .i64 2] 3)) #[.int .i64 1] 1 (by simp) (by rw [maxLen_eq]; omega) rfl
          simpa using h
        have hl1' := hl1.rd.below q2
        have hl2' := hl2.rd
        replace hB := bvia (bvia hB q1) q2
        have HE := Lib.hid (And.intro hB (And.intro hl1' hl2'))
        have HTX := Lib.hid strict_text
        clear q1 q2 hl1 hl2 hl1' hl2' hB
        go_wp2_with (fail)
        refine (implCueText_any 3 [0, 2] [1] _ _ _ HE.out.2.1 HE.out.2.2 (tabIs_below HT.out.1 HE.out.1)).mono ?_
        rintro e wz ⟨rfl, hb⟩
        rw [← HTX.out]
        have hB := bvia HE.out.1 hb
        clear hb
        go_wp2_with (fail)
        go_returns
        exact ⟨by first | rfl | decide, hB⟩
  · have hbd : decide (1048576 < n) = true := decide_eq_true (by omega)
    have hB := Below.refl w.heap.size w
    go_enter Tryd.func7, Tryd.ntmps7
    go_wp2_with (fail)
    refine (big_any n _ _ _ hr).mono ?_
    rintro e w1 ⟨rfl, rfl⟩
    go_wp2_with (fail)
    go_returns
    exact ⟨rfl, hB⟩
end Go.Proofs.YtkkcglncjdoacaaDoor
