/- The walk of impl.WayAround: layer by layer. -/
import Derived.Test.YtcpkbohopicabaaWayS
import Derived.Test.YtcpkbohopicabaaSWay
import Derived.Test.YtcpkbohopicabaaRg2
namespace Go.Proofs.Ytcpkbohopicabaa
open Go.ChangeShapes Go.WideShapes Go.ChangeAt Go.RowKit Go.Joins
set_option linter.unusedSimpArgs false
set_option linter.unusedVariables false

theorem hasSpot_mem {p : Sp} {zs : List Sp} : hasSpot p zs = true ↔ p ∈ zs := by
  unfold hasSpot
  rw [List.any_eq_true]
  constructor
  · rintro ⟨x, hx, he⟩
    exact eqS_iff.1 he ▸ hx
  · intro h
    exact ⟨p, h, eqS_iff.2 rfl⟩
theorem OwSpot.full {w : World} {B : Nat} {u : Value} {L : List Sp} (h : OwSpot w B u L) (hp : 0 < L.length) :
    ∃ g cap, u = .slice (some ⟨g, 0, none⟩) L.length cap ∧ B ≤ g ∧ g < w.heap.size ∧ L.length ≤ cap ∧ cap ≤ 9223372036854775807 := by
  rcases h.slice with ⟨_, h⟩ | ⟨g, cap, rfl, h1, h2, h3, h4⟩
  · rw [h] at hp
    simp at hp
  · exact ⟨g, cap, rfl, h1, h2, h3, h4⟩

set_option maxRecDepth 40000 in
set_option maxHeartbeats 8000000 in
theorem implWay_any (wd ht : Int) (zs : List Sp) (k t0 t1 : Int) (v : Value) (w : World) (h : RdSpot w v zs) :
    Calls Try.prog 33 #[.int .i64 wd, .int .i64 ht, v, .int .i64 k, .agg #[.int .i64 t0, .int .i64 t1]] w fun e w' => e = .returned (.int .i64 (wayF wd ht zs k (t0, t1))) ∧ Below w.heap.size w w' := by
  have cw : ∀ (x lo hi : Int) (b : Bool), inB x lo hi = b → ∀ u, Calls Try.prog 42 #[.int .i64 x, .int .i64 lo, .int .i64 hi] u fun e w' => e = .returned (.bool b) ∧ u = w' := fun x lo hi b hb u => by have := within_any x lo hi u; rwa [hb] at this
  have hb := below_alloc1 w (.cells #[.int .i64 t0, .int .i64 t1] 50)
  have n0 : (w.alloc (.cells #[.int .i64 t0, .int .i64 t1] 50)).cell? ⟨w.heap.size, 0, none⟩ = some (.int .i64 t0) := by simp [go_sem]
  have n1 : (w.alloc (.cells #[.int .i64 t0, .int .i64 t1] 50)).cell? ⟨w.heap.size, 1, none⟩ = some (.int .i64 t1) := by simp [go_sem]
  have hr := h.below hb
  obtain ⟨az, capz, rfl⟩ := h.shape
  have HS := Lib.hid (And.intro hb (And.intro hr (And.intro n0 n1)))
  clear n0 n1 hr hb h
  go_enter Try.func33, Try.ntmps33
  go_wp2_with (fail)
  generalize w.alloc (.cells #[.int .i64 t0, .int .i64 t1] 50) = w1 at HS ⊢
  obtain ⟨hb, hr, n0, n1⟩ := HS.out
  clear HS
  refine (implSpotsOk_any wd ht zs _ _ hr).mono ?_
  rintro e w2 ⟨rfl, hb2⟩
  replace n0 := cell_on hb2 n0
  replace n1 := cell_on hb2 n1
  replace hr := hr.below hb2
  replace hb := bvia hb hb2
  clear hb2
  cases h1 : spotsB wd ht zs with
  | false =>
    have HK := Lib.hid (wayF_no (wd := wd) (ht := ht) (zs := zs) (k := k) (t := (t0, t1)) (by simp [wayIn, h1]))
    go_wp2_with (fail)
    go_ret
    exact ⟨ret_int HK.out.symm, hb⟩
  | true =>
    obtain ⟨hwb, hhb, hl7, hF⟩ := spotsB_bd h1
    cases h2 : inB k 0 ((zs.length : Int) - 1) with
    | false =>
      have HK := Lib.hid (wayF_no (wd := wd) (ht := ht) (zs := zs) (k := k) (t := (t0, t1)) (by simp [wayIn, h2]))
      go_wp2_with (fail)
      refine (cw k _ _ _ h2 _).mono ?_
      rintro e w9 ⟨rfl, rfl⟩
      go_wp2_with (fail)
      go_ret
      exact ⟨ret_int HK.out.symm, hb⟩
    | true =>
      have hkb := inB_true.1 h2
      obtain ⟨kn, rfl⟩ : ∃ n : Nat, k = n := ⟨k.toNat, by omega⟩
      have hkn : kn < zs.length := by omega
      have HIS := Lib.hid (fun u => isSpot_any wd ht t0 t1 hwb hhb u)
      cases h3 : spotB wd ht (t0, t1) with
      | false =>
        rw [h3] at HIS
        have HK := Lib.hid (wayF_no (wd := wd) (ht := ht) (zs := zs) (k := (kn : Int)) (t := (t0, t1)) (by simp [wayIn, h3]))
        go_wp2_with (fail)
        refine (cw (kn : Int) _ _ _ h2 _).mono ?_
        rintro e w9 ⟨rfl, rfl⟩
        go_wp2_with (fail)
        refine (HIS.out _).mono ?_
        rintro e w3 ⟨rfl, hb3⟩
        replace n0 := cell_on hb3 n0
        replace n1 := cell_on hb3 n1
        replace hr := hr.below hb3
        replace hb := bvia hb hb3
        clear hb3 HIS
        go_wp2_with (fail)
        go_ret
        exact ⟨ret_int HK.out.symm, hb⟩
      | true =>
        rw [h3] at HIS
        have hwi : wayIn wd ht zs kn (t0, t1) = true := by simp [wayIn, h1, h2, h3]
        have HZ := Lib.hid (spotsF_mem zs [] hF)
        have HW := Lib.hid (fun a => wayF_eq (a := a) hwi)
        rw [Int.toNat_natCast] at HW
        clear hwi hF
        go_wp2_with (fail)
        refine (cw (kn : Int) _ _ _ h2 _).mono ?_
        rintro e w9 ⟨rfl, rfl⟩
        go_wp2_with (fail)
        refine (HIS.out _).mono ?_
        rintro e w3 ⟨rfl, hb3⟩
        replace n0 := cell_on hb3 n0
        replace n1 := cell_on hb3 n1
        replace hr := hr.below hb3
        replace hb := bvia hb hb3
        clear hb3 HIS
        obtain ⟨az2, capz2, blz, offz, hvz, hcz, hmz, hadz, hez⟩ := hr.open
        simp only [Value.slice.injEq] at hvz
        obtain ⟨rfl, _, rfl⟩ := hvz
        have hazz := hadz (by omega)
        subst hazz
        have s1 : RdSpot w3 (.slice (some ⟨blz, offz, none⟩) kn capz) (zs.take kn) := RdSpot.take hcz hmz (by omega) hez
        obtain ⟨k1, hk1⟩ : ∃ k1, kn + 1 = k1 := ⟨_, rfl⟩
        have hk1l : k1 ≤ zs.length := by omega
        have s2 := hr.from (k := k1) hk1l
        obtain ⟨⟨s0, sy⟩, hs⟩ : ∃ x, zs[kn]? = some x := ⟨_, List.getElem?_eq_getElem hkn⟩
        have hgd : zs.getD kn (0, 0) = (s0, sy) := by rw [List.getD_eq_getElem?_getD, hs]; rfl
        have hg := HZ.out _ (List.mem_of_getElem? hs)
        have hsrc := hez kn hkn
        rw [hgd] at hsrc HW
        dsimp only at hsrc
        obtain ⟨c0, c1⟩ := hsrc
        have q1 : kn ≤ capz := by omega
        have q2 : (kn : Int) ≤ (capz : Int) := by omega
        have q3 : (kn : Int) ≤ (zs.length : Int) := by omega
        have q4 : (k1 : Int) ≤ (zs.length : Int) := by omega
        have q5 : k1 ≤ capz := by omega
        have q6 : (k1 : Int) ≤ (capz : Int) := by omega
        have q7 : IntKind.i64.wrap ((kn : Int) + 1) = (k1 : Int) := by rw [← hk1]; exact IntWalk.i64_in _ (by omega)
        have HK1 := Lib.hid hk1
        clear hk1
        have hbs := hb.size
        have HS := Lib.hid (And.intro hb (And.intro s1 (And.intro s2 (And.intro n0 (And.intro n1 (And.intro c0 c1))))))
        clear hb s1 s2 hs hgd hez hadz c0 c1 n0 n1 hr
        go_wp2_with (fail)
        with_reducible refine region_beg (n := 11) (S := (fun _ => True)) ?b1_u1 ?b2_u1 ?b3_u1 (fun hHeld => ?b4_u1)
        case b1_u1 => kernel_rfl
        case b2_u1 => kernel_rfl
        case b3_u1 => exact trivial
        with_reducible refine takeI2 (i := 1) (v := ?sv_u2) (oi := ?s0_u2) (by simp only [List.getElem?_toArray, List.getElem?_cons_succ, List.getElem?_cons_zero]; exact rfl) ?s1_u2 ?s2_u2 ?s3_u2 ?s4_u2 ?s5_u2 ?s6_u2 ?s7_u2
        case s1_u2 => kernel_rfl
        case s2_u2 => kernel_rfl
        case s3_u2 => kernel_rfl
        case s4_u2 => exact fun _ _ _ h => h
        case s5_u2 => exact Or.inl ⟨rfl, by intro w hSw; (try dsimp only at hSw); go_simp; try with_reducible rfl⟩
        case s6_u2 => assumption
        try simp only [Act.put, List.setIfInBounds_toArray, List.set_cons_zero, List.set_cons_succ]
        with_reducible refine takeI2 (i := 2) (v := ?sv_u3) (oi := ?s0_u3) (by simp only [List.getElem?_toArray, List.getElem?_cons_succ, List.getElem?_cons_zero]; exact rfl) ?s1_u3 ?s2_u3 ?s3_u3 ?s4_u3 ?s5_u3 ?s6_u3 ?s7_u3
        case s1_u3 => kernel_rfl
        case s2_u3 => kernel_rfl
        case s3_u3 => kernel_rfl
        case s4_u3 => exact fun _ _ _ h => h
        case s5_u3 => exact Or.inl ⟨rfl, by intro w hSw; (try dsimp only at hSw); go_simp; try with_reducible rfl⟩
        case s6_u3 => assumption
        try simp only [Act.put, List.setIfInBounds_toArray, List.set_cons_zero, List.set_cons_succ]
        with_reducible refine takeI2 (i := 5) (v := ?sv_u4) (oi := ?s0_u4) (by simp only [List.getElem?_toArray, List.getElem?_cons_succ, List.getElem?_cons_zero]; exact rfl) ?s1_u4 ?s2_u4 ?s3_u4 ?s4_u4 ?s5_u4 ?s6_u4 ?s7_u4
        case s1_u4 => kernel_rfl
        case s2_u4 => kernel_rfl
        case s3_u4 => kernel_rfl
        case s4_u4 => exact fun _ _ _ h => h
        case s5_u4 => exact Or.inl ⟨rfl, by intro w hSw; (try dsimp only at hSw); go_simp; try with_reducible rfl⟩
        case s6_u4 => assumption
        try simp only [Act.put, List.setIfInBounds_toArray, List.set_cons_zero, List.set_cons_succ]
        with_reducible refine takeI2 (i := 6) (v := ?sv_u5) (oi := ?s0_u5) (by simp only [List.getElem?_toArray, List.getElem?_cons_succ, List.getElem?_cons_zero]; exact rfl) ?s1_u5 ?s2_u5 ?s3_u5 ?s4_u5 ?s5_u5 ?s6_u5 ?s7_u5
        case s1_u5 => kernel_rfl
        case s2_u5 => kernel_rfl
        case s3_u5 => kernel_rfl
        case s4_u5 => exact fun _ _ _ h => h
        case s5_u5 => exact Or.inl ⟨rfl, by intro w hSw; (try dsimp only at hSw); go_simp; try with_reducible rfl⟩
        case s6_u5 => assumption
        try simp only [Act.put, List.setIfInBounds_toArray, List.set_cons_zero, List.set_cons_succ]
        with_reducible refine takeI2 (i := 7) (v := ?sv_u6) (oi := ?s0_u6) (by simp only [List.getElem?_toArray, List.getElem?_cons_succ, List.getElem?_cons_zero]; exact rfl) ?s1_u6 ?s2_u6 ?s3_u6 ?s4_u6 ?s5_u6 ?s6_u6 ?s7_u6
        case s1_u6 => kernel_rfl
        case s2_u6 => kernel_rfl
        case s3_u6 => kernel_rfl
        case s4_u6 => exact fun _ _ _ h => h
        case s5_u6 => exact Or.inl ⟨rfl, by intro w hSw; (try dsimp only at hSw); go_simp; try with_reducible rfl⟩
        case s6_u6 => assumption
        try simp only [Act.put, List.setIfInBounds_toArray, List.set_cons_zero, List.set_cons_succ]
        with_reducible refine takeI2 (i := 3) (v := ?sv_u7) (oi := ?s0_u7) (by simp only [List.getElem?_toArray, List.getElem?_cons_succ, List.getElem?_cons_zero]; exact rfl) ?s1_u7 ?s2_u7 ?s3_u7 ?s4_u7 ?s5_u7 ?s6_u7 ?s7_u7
        case s1_u7 => kernel_rfl
        case s2_u7 => kernel_rfl
        case s3_u7 => kernel_rfl
        case s4_u7 => exact fun _ _ _ h => h
        case s5_u7 => exact Or.inl ⟨rfl, by intro w hSw; (try dsimp only at hSw); go_simp; try with_reducible rfl⟩
        case s6_u7 => assumption
        try simp only [Act.put, List.setIfInBounds_toArray, List.set_cons_zero, List.set_cons_succ]
        with_reducible refine takeI2 (i := 8) (v := ?sv_u8) (oi := ?s0_u8) (by simp only [List.getElem?_toArray, List.getElem?_cons_succ, List.getElem?_cons_zero]; exact rfl) ?s1_u8 ?s2_u8 ?s3_u8 ?s4_u8 ?s5_u8 ?s6_u8 ?s7_u8
        case s1_u8 => kernel_rfl
        case s2_u8 => kernel_rfl
        case s3_u8 => kernel_rfl
        case s4_u8 => exact fun _ _ _ h => h
        case s5_u8 => exact Or.inl ⟨rfl, by intro w hSw; (try dsimp only at hSw); go_simp; try with_reducible rfl⟩
        case s6_u8 => assumption
        try simp only [Act.put, List.setIfInBounds_toArray, List.set_cons_zero, List.set_cons_succ]
        with_reducible refine wpAnyH_ready (rs := [0]) ?s1_u9 one_ne ?s2_u9
        case s1_u9 => kernel_rfl
        with_reducible refine AllReadyH.cons (o := ?s0_u9) (by simp only [List.getElem?_toArray, List.getElem?_cons_succ, List.getElem?_cons_zero]; exact rfl) (fun K hK => ?s3_u9) AllReadyH.nil
        go_simp
        have HE := Lib.hid (OwSpot.empty w3 w3.heap.size (Nat.le_refl _))
        with_reducible refine hK.out _ _ ?s1_u10 (fun hHeld => ?s2_u10)
        case s1_u10 => exact trivial
        clear hK K
        try simp only [Act.put, List.setIfInBounds_toArray, List.set_cons_zero, List.set_cons_succ]
        with_reducible refine wpAnyH_ready (rs := [4]) ?s1_u11 one_ne ?s2_u11
        case s1_u11 => kernel_rfl
        with_reducible refine AllReadyH.cons (o := ?s0_u11) (by simp only [List.getElem?_toArray, List.getElem?_cons_succ, List.getElem?_cons_zero]; exact rfl) (fun K hK => ?s3_u11) AllReadyH.nil
        obtain ⟨hb, s1, s2, n0, n1, c0, c1⟩ := HS.out
        clear HS
        have hb0 := below_alloc1 w3 (.cells #[] 50)
        refine step_appSpot rfl (.tmp 41) (.tmp 44) rfl _ w3.heap.size _ [] rfl HE.out.drew _ (zs.take kn) rfl (s1.alloc _).drew (by simp; omega) (by simp) ?_
        intro v4 w4 o4 hg4 _
        rw [List.nil_append] at o4
        have hb4 : Below w3.heap.size w3 w4 := HE.out.drew.grown_below hb0.drew (Nat.le_refl _) hg4
        clear hg4 HE hb0
        with_reducible refine hK.out _ _ ?s1_u12 (fun hHeld => ?s2_u12)
        case s1_u12 => exact trivial
        clear hK K
        try simp only [Act.put, List.setIfInBounds_toArray, List.set_cons_zero, List.set_cons_succ]
        with_reducible refine wpAnyH_ready (rs := [9]) ?s1_u13 one_ne ?s2_u13
        case s1_u13 => kernel_rfl
        with_reducible refine AllReadyH.cons (o := ?s0_u13) (by simp only [List.getElem?_toArray, List.getElem?_cons_succ, List.getElem?_cons_zero]; exact rfl) (fun K hK => ?s3_u13) AllReadyH.nil
        refine step_appSpot rfl (.tmp 45) (.tmp 49) rfl _ w3.heap.size _ (zs.take kn) rfl o4 _ (zs.drop k1) rfl (s2.below hb4) (by simp; omega) hb4.size ?_
        intro v5 w5 o5 hg5 _
        have hb5 : Below w3.heap.size w3 w5 := o4.grown_below hb4 (Nat.le_refl _) hg5
        clear hg5 o4 hb4
        with_reducible refine hK.out _ _ ?s1_u14 (fun hHeld => ?s2_u14)
        case s1_u14 => exact trivial
        clear hK K
        try simp only [Act.put, List.setIfInBounds_toArray, List.set_cons_zero, List.set_cons_succ]
        with_reducible refine takeI2 (i := 10) (v := ?sv_u15) (oi := ?s0_u15) (by simp only [List.getElem?_toArray, List.getElem?_cons_succ, List.getElem?_cons_zero]; exact rfl) ?s1_u15 ?s2_u15 ?s3_u15 ?s4_u15 ?s5_u15 ?s6_u15 ?s7_u15
        case s1_u15 => kernel_rfl
        case s2_u15 => kernel_rfl
        case s3_u15 => kernel_rfl
        case s4_u15 => exact fun _ _ _ h => h
        case s5_u15 => exact Or.inl ⟨rfl, by intro w hSw; (try dsimp only at hSw); go_simp; try with_reducible rfl⟩
        case s6_u15 => assumption
        try simp only [Act.put, List.setIfInBounds_toArray, List.set_cons_zero, List.set_cons_succ]
        with_reducible refine wpAnyH_done ?s1_u16 ?s2_u16 _
        case s1_u16 => kernel_rfl
        replace n0 := cell_on hb5 n0
        replace n1 := cell_on hb5 n1
        replace c0 := cell_on hb5 c0
        replace c1 := cell_on hb5 c1
        replace hb := bvia hb hb5
        have hro := o5.rd
        clear s1 s2 o5 hb5 q1 q2 q3 q4 q5 q6 q7
        generalize (if capz = k1 then some (⟨blz, offz, none⟩ : Addr) else some ⟨blz, offz + k1 * 2, none⟩) = ao
        go_wp2_with (fail)
        with_reducible refine region_beg (n := 12) (S := (fun w' => w'.cell? ⟨blz, offz + kn * 2, none⟩ = some (.int .i64 s0) ∧ w'.cell? ⟨blz, offz + kn * 2 + 1, none⟩ = some (.int .i64 sy))) ?b1_u51 ?b2_u51 ?b3_u51 (fun hHeld => ?b4_u51)
        case b1_u51 => kernel_rfl
        case b2_u51 => kernel_rfl
        case b3_u51 => first | exact ⟨c0, c1⟩ | exact ⟨cell_on (below_alloc1 _ _).drew c0, cell_on (below_alloc1 _ _).drew c1⟩ | exact ⟨cell_on (below_alloc2 _ _ _).drew c0, cell_on (below_alloc2 _ _ _).drew c1⟩
        with_reducible refine takeI2 (i := 0) (v := ?sv_u52) (oi := ?s0_u52) (by simp only [List.getElem?_toArray, List.getElem?_cons_succ, List.getElem?_cons_zero]; exact rfl) ?s1_u52 ?s2_u52 ?s3_u52 ?s4_u52 ?s5_u52 ?s6_u52 ?s7_u52
        case s1_u52 => kernel_rfl
        case s2_u52 => kernel_rfl
        case s3_u52 => kernel_rfl
        case s4_u52 => exact fun _ _ _ h => h
        case s5_u52 => exact Or.inl ⟨rfl, by intro w hSw; (try dsimp only at hSw); go_simp; try with_reducible rfl⟩
        case s6_u52 => assumption
        try simp only [Act.put, List.setIfInBounds_toArray, List.set_cons_zero, List.set_cons_succ]
        with_reducible refine takeI2 (i := 1) (v := ?sv_u53) (oi := ?s0_u53) (by simp only [List.getElem?_toArray, List.getElem?_cons_succ, List.getElem?_cons_zero]; exact rfl) ?s1_u53 ?s2_u53 ?s3_u53 ?s4_u53 ?s5_u53 ?s6_u53 ?s7_u53
        case s1_u53 => kernel_rfl
        case s2_u53 => kernel_rfl
        case s3_u53 => kernel_rfl
        case s4_u53 => exact fun _ _ _ h => h
        case s5_u53 => exact Or.inl ⟨rfl, by intro w hSw; (try dsimp only at hSw); go_simp; try with_reducible rfl⟩
        case s6_u53 => assumption
        try simp only [Act.put, List.setIfInBounds_toArray, List.set_cons_zero, List.set_cons_succ]
        with_reducible refine takeI2 (i := 5) (v := ?sv_u54) (oi := ?s0_u54) (by simp only [List.getElem?_toArray, List.getElem?_cons_succ, List.getElem?_cons_zero]; exact rfl) ?s1_u54 ?s2_u54 ?s3_u54 ?s4_u54 ?s5_u54 ?s6_u54 ?s7_u54
        case s1_u54 => kernel_rfl
        case s2_u54 => kernel_rfl
        case s3_u54 => kernel_rfl
        case s4_u54 => exact fun _ _ _ h => h
        case s5_u54 => exact Or.inl ⟨rfl, by intro w hSw; (try dsimp only at hSw); go_simp; try with_reducible rfl⟩
        case s6_u54 => assumption
        try simp only [Act.put, List.setIfInBounds_toArray, List.set_cons_zero, List.set_cons_succ]
        with_reducible refine takeI2 (i := 6) (v := ?sv_u55) (oi := ?s0_u55) (by simp only [List.getElem?_toArray, List.getElem?_cons_succ, List.getElem?_cons_zero]; exact rfl) ?s1_u55 ?s2_u55 ?s3_u55 ?s4_u55 ?s5_u55 ?s6_u55 ?s7_u55
        case s1_u55 => kernel_rfl
        case s2_u55 => kernel_rfl
        case s3_u55 => kernel_rfl
        case s4_u55 => exact fun _ _ _ h => h
        case s5_u55 => exact Or.inl ⟨rfl, by intro w hSw; (try dsimp only at hSw); go_simp; try with_reducible rfl⟩
        case s6_u55 => assumption
        try simp only [Act.put, List.setIfInBounds_toArray, List.set_cons_zero, List.set_cons_succ]
        with_reducible refine takeI2 (i := 2) (v := ?sv_u56) (oi := ?s0_u56) (by simp only [List.getElem?_toArray, List.getElem?_cons_succ, List.getElem?_cons_zero]; exact rfl) ?s1_u56 ?s2_u56 ?s3_u56 ?s4_u56 ?s5_u56 ?s6_u56 ?s7_u56
        case s1_u56 => kernel_rfl
        case s2_u56 => kernel_rfl
        case s3_u56 => kernel_rfl
        case s4_u56 => exact fun _ _ _ h => h
        case s5_u56 => exact Or.inl ⟨rfl, by intro w hSw; (try dsimp only at hSw); go_simp; try with_reducible rfl⟩
        case s6_u56 => assumption
        try simp only [Act.put, List.setIfInBounds_toArray, List.set_cons_zero, List.set_cons_succ]
        with_reducible refine takeI2 (i := 7) (v := ?sv_u57) (oi := ?s0_u57) (by simp only [List.getElem?_toArray, List.getElem?_cons_succ, List.getElem?_cons_zero]; exact rfl) ?s1_u57 ?s2_u57 ?s3_u57 ?s4_u57 ?s5_u57 ?s6_u57 ?s7_u57
        case s1_u57 => kernel_rfl
        case s2_u57 => kernel_rfl
        case s3_u57 => kernel_rfl
        case s4_u57 => exact fun _ _ _ h => h
        case s5_u57 => exact Or.inl ⟨rfl, by intro w hSw; (try dsimp only at hSw); go_simp; try with_reducible rfl⟩
        case s6_u57 => assumption
        try simp only [Act.put, List.setIfInBounds_toArray, List.set_cons_zero, List.set_cons_succ]
        with_reducible refine takeI2 (i := 3) (v := ?sv_u58) (oi := ?s0_u58) (by simp only [List.getElem?_toArray, List.getElem?_cons_succ, List.getElem?_cons_zero]; exact rfl) ?s1_u58 ?s2_u58 ?s3_u58 ?s4_u58 ?s5_u58 ?s6_u58 ?s7_u58
        case s1_u58 => kernel_rfl
        case s2_u58 => kernel_rfl
        case s3_u58 => kernel_rfl
        case s4_u58 => exact fun _ _ _ h => h
        case s5_u58 => exact Or.inl ⟨rfl, by intro w hSw; (try dsimp only at hSw); go_simp; try with_reducible rfl⟩
        case s6_u58 => assumption
        try simp only [Act.put, List.setIfInBounds_toArray, List.set_cons_zero, List.set_cons_succ]
        with_reducible refine takeI2 (i := 8) (v := ?sv_u59) (oi := ?s0_u59) (by simp only [List.getElem?_toArray, List.getElem?_cons_succ, List.getElem?_cons_zero]; exact rfl) ?s1_u59 ?s2_u59 ?s3_u59 ?s4_u59 ?s5_u59 ?s6_u59 ?s7_u59
        case s1_u59 => kernel_rfl
        case s2_u59 => kernel_rfl
        case s3_u59 => kernel_rfl
        case s4_u59 => exact fun _ _ _ h => h
        case s5_u59 => exact Or.inl ⟨rfl, by intro w hSw; (try dsimp only at hSw); go_simp; try with_reducible rfl⟩
        case s6_u59 => assumption
        try simp only [Act.put, List.setIfInBounds_toArray, List.set_cons_zero, List.set_cons_succ]
        with_reducible refine wpAnyH_ready (rs := [4, 9]) ?s1_u60 (List.cons_ne_nil _ _) ?s2_u60
        case s1_u60 => kernel_rfl
        with_reducible refine AllReadyH.cons (o := ?b0_u60) (by simp only [List.getElem?_toArray, List.getElem?_cons_succ, List.getElem?_cons_zero]; exact rfl) ?b5_u60 (AllReadyH.cons (o := ?b1_u60) (by simp only [List.getElem?_toArray, List.getElem?_cons_succ, List.getElem?_cons_zero]; exact rfl) ?b6_u60 AllReadyH.nil)
        case b5_u60 =>
          intro K hK
          go_simp
          skip
          with_reducible refine hK.out _ _ ?s1_u61 (fun hHeld => ?s2_u61)
          case s1_u61 => first | exact ⟨c0, c1⟩ | exact ⟨cell_on (below_alloc1 _ _).drew c0, cell_on (below_alloc1 _ _).drew c1⟩ | exact ⟨cell_on (below_alloc2 _ _ _).drew c0, cell_on (below_alloc2 _ _ _).drew c1⟩
          clear hK K
          try simp only [Act.put, List.setIfInBounds_toArray, List.set_cons_zero, List.set_cons_succ]
          with_reducible refine takeI2 (i := 10) (v := ?sv_u62) (oi := ?s0_u62) (by simp only [List.getElem?_toArray, List.getElem?_cons_succ, List.getElem?_cons_zero]; exact rfl) ?s1_u62 ?s2_u62 ?s3_u62 ?s4_u62 ?s5_u62 ?s6_u62 ?s7_u62
          case s1_u62 => kernel_rfl
          case s2_u62 => kernel_rfl
          case s3_u62 => kernel_rfl
          case s4_u62 => exact fun _ _ _ h => h
          case s5_u62 => exact Or.inl ⟨rfl, by intro w hSw; (try dsimp only at hSw); go_simp; try with_reducible rfl⟩
          case s6_u62 => assumption
          try simp only [Act.put, List.setIfInBounds_toArray, List.set_cons_zero, List.set_cons_succ]
          with_reducible refine wpAnyH_ready (rs := [9]) ?s1_u63 (List.cons_ne_nil _ _) ?s2_u63
          case s1_u63 => kernel_rfl
          with_reducible refine AllReadyH.cons (o := ?b0_u63) (by simp only [List.getElem?_toArray, List.getElem?_cons_succ, List.getElem?_cons_zero]; exact rfl) ?b5_u63 AllReadyH.nil
          case b5_u63 =>
            intro K hK
            go_simp
            skip
            with_reducible refine hK.out _ _ ?s1_u64 (fun hHeld => ?s2_u64)
            case s1_u64 => first | exact ⟨c0, c1⟩ | exact ⟨cell_on (below_alloc1 _ _).drew c0, cell_on (below_alloc1 _ _).drew c1⟩ | exact ⟨cell_on (below_alloc2 _ _ _).drew c0, cell_on (below_alloc2 _ _ _).drew c1⟩
            clear hK K
            try simp only [Act.put, List.setIfInBounds_toArray, List.set_cons_zero, List.set_cons_succ]
            with_reducible refine takeI2 (i := 11) (v := ?sv_u65) (oi := ?s0_u65) (by simp only [List.getElem?_toArray, List.getElem?_cons_succ, List.getElem?_cons_zero]; exact rfl) ?s1_u65 ?s2_u65 ?s3_u65 ?s4_u65 ?s5_u65 ?s6_u65 ?s7_u65
            case s1_u65 => kernel_rfl
            case s2_u65 => kernel_rfl
            case s3_u65 => kernel_rfl
            case s4_u65 => exact fun _ _ _ h => h
            case s5_u65 => exact Or.inl ⟨rfl, by intro w hSw; (try dsimp only at hSw); go_simp; try with_reducible rfl⟩
            case s6_u65 => assumption
            try simp only [Act.put, List.setIfInBounds_toArray, List.set_cons_zero, List.set_cons_succ]
            with_reducible refine wpAnyH_done ?s1_u66 ?s2_u66 _
            case s1_u66 => kernel_rfl
            have hM0 := Mn.start w5 s0 sy (g := w5.heap.size) (g' := (w5.heap.size + 1)) (.inl ⟨rfl, rfl⟩)
            go_wp2_with (fail)
            go_loopw [12, 13, 14] (fun a b i wr => ∃ (c : Nat) (seen now : List Sp), i = .int .i64 c ∧ Mn w5 wr a b seen now ∧ Hid (Lay wd ht (freeS wd ht zs kn) (s0, sy) (t0, t1) c seen now)) (fun _ _ i _ => 146 - (intOf i).toNat)
            case atStart => exact ⟨0, _, _, rfl, hM0.drew, Lay.start hg⟩
            case round =>
             focus
              clear hM0
              obtain ⟨c, seen0, now, rfl, hM, HL⟩ := hrel
              have hcl := HL.out.cnt.1
              have hl144 : seen0.length ≤ 144 := grid_144 hwb hhb HL.out.nodup HL.out.grid
              by_cases hne : now = []
              · subst hne
                have HN := Lib.hid (HW.out _ HL.out.none)
                obtain ⟨A, cap, rfl, _⟩ := hM.on.form
                have HB2 := Lib.hid (bvia hb hM.hB)
                clear hM HL
                go_wp2_with (fail)
                go_ret
                exact ⟨ret_int HN.out.symm, HB2.out⟩
              · have hp : 0 < now.length := List.length_pos_iff.2 hne
                obtain ⟨gn, cn, rfl, _, _, hcn, hmn⟩ := hM.on.full hp
                have hsc := hM.scan
                have HSC := Lib.hid (HL.out.scan hne)
                have HA := Lib.hid hsc
                clear hM HL hsc hne
                go_wp2_with (fail)
                go_loopw [12, 15, 69] (fun a b i wr => ∃ (j : Nat) (seen next : List Sp), j ≤ now.length ∧ i = .int .i64 j ∧ Sc w5 wr a b seen next [(.slice (some ⟨gn, 0, none⟩) now.length cn, now)] ∧ Hid (Scan wd ht (freeS wd ht zs kn) (s0, sy) (t0, t1) c now j 0 seen next)) (fun _ _ i _ => now.length - (intOf i).toNat)
                case atStart => exact ⟨0, seen0, [], Nat.zero_le _, rfl, HA.out, HSC.out⟩
                case round =>
                 focus
                  have hsc := HA.out
                  clear HA
                  clear hsc HSC
                  obtain ⟨j, seen, next, hj, rfl, hsc, HSC⟩ := hrel
                  by_cases hlt : j < now.length
                  · obtain ⟨⟨x0, x1⟩, hx⟩ : ∃ x, now[j]? = some x := ⟨_, List.getElem?_eq_getElem hlt⟩
                    have hgx : spotB wd ht (x0, x1) = true := HSC.out.grid _ ((HSC.out.sn _).2 (.inl ((HSC.out.nw _).1 (List.mem_of_getElem? hx)).1))
                    obtain ⟨⟨a0, a1⟩, a2, a3⟩ := spotB_iff.1 hgx
                    dsimp only at a0 a1 a2 a3
                    obtain ⟨c0, c1⟩ := rdSpot_cell hsc.rd0 hx
                    have m0 := cell_on hsc.hB n0
                    have m1 := cell_on hsc.hB n1
                    have HX := Lib.hid hx
                    have hsn := hsc.new x0 x1
                    have m0' := cell_on (below_alloc1 wr (.cells #[.int .i64 x0, .int .i64 x1] 50)) m0
                    have m1' := cell_on (below_alloc1 wr (.cells #[.int .i64 x0, .int .i64 x1] 50)) m1
                    have HA := Lib.hid hsn
                    clear hx hgx m0 m1 hsn
                    by_cases e0 : x0 = t0
                    · by_cases e1 : x1 = t1
                      · have HIT := Lib.hid (HW.out _ (HSC.out.hit (by rw [HX.out, e0, e1])))
                        have HB2 := Lib.hid (bvia hb HA.out.hB)
                        clear hsc HSC HA
                        subst e0
                        subst e1
                        go_wp2_with (fail)
                        go_ret
                        exact ⟨ret_int HIT.out.symm, HB2.out⟩
                      · have e1b : (x1 == t1) = false := beq_eq_false_iff_ne.2 e1
                        have e0b : (x0 == t0) = true := beq_iff_eq.2 e0
                        have HXT : Hid ((x0, x1) ≠ (t0, t1)) := fun h => e1 (by cases h; rfl)
                        clear hsc e0 e1
                        go_wp2_with (fail)
                        have hsc := HA.out
                        clear m0' m1' c0 c1 HA
                        generalize wr.alloc (.cells #[.int .i64 x0, .int .i64 x1] 50) = wq at hsc ⊢
                        generalize wr.heap.size = gs at hsc ⊢
                        go_loopw [12, 15, 18] (fun a b i wr => ∃ (d : Nat) (seen next : List Sp), d ≤ 3 ∧ i = .int .i64 ((d : Int) - 1) ∧ Sc w5 wr a b seen next [(.slice (some ⟨gs, 0, none⟩) 1 1, [(x0, x1)]), (.slice (some ⟨gn, 0, none⟩) now.length cn, now)] ∧ Hid (Scan wd ht (freeS wd ht zs kn) (s0, sy) (t0, t1) c now j (3 * d) seen next)) (fun _ _ i _ => (2 - intOf i).toNat)
                        case atStart => exact ⟨0, seen, next, by omega, rfl, hsc, HSC.out⟩
                        case round =>
                         focus
                          clear hsc HSC
                          obtain ⟨d, seen, next, hd, rfl, hsc, HSC⟩ := hrel
                          by_cases hd3 : d < 3
                          · have hdd : (d : Int) - 1 ≤ 1 := by omega
                            go_wp2_with (fail)
                            go_loopw [12, 15, 19] (fun a b i wr => ∃ (f : Nat) (seen next : List Sp), f ≤ 3 ∧ i = .int .i64 ((f : Int) - 1) ∧ Sc w5 wr a b seen next [(.slice (some ⟨gs, 0, none⟩) 1 1, [(x0, x1)]), (.slice (some ⟨gn, 0, none⟩) now.length cn, now)] ∧ Hid (Scan wd ht (freeS wd ht zs kn) (s0, sy) (t0, t1) c now j (3 * d + f) seen next)) (fun _ _ i _ => (2 - intOf i).toNat)
                            case atStart => exact ⟨0, seen, next, by omega, rfl, hsc, HSC.out⟩
                            case round =>
                             focus
                              clear hsc HSC
                              obtain ⟨f, seen, next, hf, rfl, hsc, HSC⟩ := hrel
                              by_cases hf3 : f < 3
                              · have hff : (f : Int) - 1 ≤ 1 := by omega
                                have hsl : seen.length ≤ 144 ∧ next.length ≤ 144 := by
                                  have := grid_144 hwb hhb HSC.out.nodup HSC.out.grid
                                  have := HSC.out.cnt
                                  omega
                                obtain ⟨hsl1, hsl2⟩ := hsl
                                obtain ⟨m0, m1⟩ := rdSpot_cell (i := 0) hsc.rd0 rfl
                                rw [Nat.zero_mul] at m0 m1
                                have HXC := Lib.hid (And.intro m0 m1)
                                clear m0 m1
                                obtain ⟨P, hP⟩ : ∃ P, x0 + ((d : Int) - 1) = P := ⟨_, rfl⟩
                                obtain ⟨Q, hQ⟩ : ∃ Q, x1 + ((f : Int) - 1) = Q := ⟨_, rfl⟩
                                have hnb : nbI (x0, x1) (3 * d + f) = (P, Q) := by
                                  unfold nbI
                                  rw [show (3 * d + f) / 3 = d by omega, show (3 * d + f) % 3 = f by omega, ← hP, ← hQ]
                                  exact Prod.ext (by dsimp only; omega) (by dsimp only; omega)
                                have HNB := Lib.hid hnb
                                have wP : IntKind.i64.wrap (x0 + ((d : Int) - 1)) = P := by rw [hP]; exact IntWalk.i64_in _ (by omega)
                                have wQ : IntKind.i64.wrap (x1 + ((f : Int) - 1)) = Q := by rw [hQ]; exact IntWalk.i64_in _ (by omega)
                                have HIS := Lib.hid (fun u => isSpot_any wd ht P Q hwb hhb u)
                                obtain ⟨y0, y1⟩ := HXC.out
                                have HA := Lib.hid (hsc.new P Q)
                                clear hnb hP hQ hsc HXC
                                go_wp2_with (fail)
                                generalize wr.alloc (.cells #[.int .i64 P, .int .i64 Q] 50) = wt at HA ⊢
                                generalize wr.heap.size = gt at HA ⊢
                                have hsc := HA.out
                                clear HA y0 y1
                                obtain ⟨m0, m1⟩ := hsc.cells (g := gt) (p := P) (q := Q) (n := 1) (c := 1) (by simp)
                                cases h5 : spotB wd ht (P, Q) with
                                | false =>
                                  rw [h5] at HIS
                                  have HK2 : Hid (Scan wd ht (freeS wd ht zs kn) (s0, sy) (t0, t1) c now j (3 * d + (f + 1)) seen next) := HSC.out.skip HX.out (fun hfr => absurd hfr.1 (by rw [HNB.out, h5]; simp))
                                  clear HSC
                                  refine (HIS.out _).mono ?_
                                  rintro e w6 ⟨rfl, hb6⟩
                                  replace hsc := hsc.below hb6
                                  clear m0 m1
                                  obtain ⟨m0, m1⟩ := hsc.cells (g := gt) (p := P) (q := Q) (n := 1) (c := 1) (by simp)
                                  clear hb6
                                  clear m0 m1 HIS
                                  go_wp2_with (fail)
                                  exact ⟨⟨f + 1, seen, next, by omega, by go_num, hsc.sub (fun r hr => List.mem_cons_of_mem _ hr), HK2.out⟩, by simp [intOf]; omega⟩
                                | true =>
                                  rw [h5] at HIS
                                  refine (HIS.out _).mono ?_
                                  rintro e w6 ⟨rfl, hb6⟩
                                  replace hsc := hsc.below hb6
                                  clear m0 m1
                                  obtain ⟨m0, m1⟩ := hsc.cells (g := gt) (p := P) (q := Q) (n := 1) (c := 1) (by simp)
                                  clear hb6
                                  clear HIS
                                  go_wp2_with (fail)
                                  refine (spotOf_any (zs.take kn ++ zs.drop k1) P Q _ _ (hro.below hsc.hB)).mono ?_
                                  rintro e w6 ⟨rfl, hb6⟩
                                  replace hsc := hsc.below hb6
                                  clear m0 m1
                                  obtain ⟨m0, m1⟩ := hsc.cells (g := gt) (p := P) (q := Q) (n := 1) (c := 1) (by simp)
                                  clear hb6
                                  obtain ⟨y, hy⟩ : ∃ y, spotOfF (P, Q) (zs.take kn ++ zs.drop k1) 0 = y := ⟨_, rfl⟩
                                  have hyF : y < 0 ↔ ¬ isO zs kn zs.length (P, Q) := by
                                    rw [← hy, ← others_iff, ← HK1.out, ← hasSpot_mem, ← spotOfF_ge (P, Q) _ 0 (Int.le_refl _), Int.not_le]
                                  rw [hy]
                                  by_cases hy0 : y < 0
                                  · have hO := hyF.1 hy0
                                    have HO := Lib.hid hO
                                    clear hyF hy hO
                                    go_wp2_with (fail)
                                    refine (spotOf_any seen P Q _ _ hsc.oa.rd).mono ?_
                                    rintro e w6 ⟨rfl, hb6⟩
                                    replace hsc := hsc.below hb6
                                    clear m0 m1
                                    obtain ⟨m0, m1⟩ := hsc.cells (g := gt) (p := P) (q := Q) (n := 1) (c := 1) (by simp)
                                    clear hb6
                                    obtain ⟨z, hz⟩ : ∃ z, spotOfF (P, Q) seen 0 = z := ⟨_, rfl⟩
                                    have hzF : z < 0 ↔ (P, Q) ∉ seen := by
                                      rw [← hz, ← hasSpot_mem, ← spotOfF_ge (P, Q) _ 0 (Int.le_refl _), Int.not_le]
                                    rw [hz]
                                    by_cases hz0 : z < 0
                                    · have HP2 : Hid (Scan wd ht (freeS wd ht zs kn) (s0, sy) (t0, t1) c now j (3 * d + (f + 1)) (seen ++ [(P, Q)]) (next ++ [(P, Q)])) := by
                                        have h := HSC.out.push HX.out (by rw [HNB.out]; exact h5) (by rw [HNB.out]; exact ⟨h5, HO.out⟩) (by rw [HNB.out]; exact hzF.1 hz0)
                                        rw [HNB.out] at h
                                        exact h
                                      clear hzF hz HSC
                                      go_wp2_with (fail)
                                      with_reducible refine region_beg (n := 10) (S := (fun w' => w'.cell? ⟨gt, 0, none⟩ = some (.int .i64 P) ∧ w'.cell? ⟨gt, 1, none⟩ = some (.int .i64 Q))) ?b1_u1y1x17 ?b2_u1y1x17 ?b3_u1y1x17 (fun hHeld => ?b4_u1y1x17)
                                      case b1_u1y1x17 => kernel_rfl
                                      case b2_u1y1x17 => kernel_rfl
                                      case b3_u1y1x17 => exact hsc.cells (n := 1) (c := 1) (by simp)
                                      with_reducible refine takeI2 (i := 0) (v := ?sv_u1y1x18) (oi := ?s0_u1y1x18) (by simp only [List.getElem?_toArray, List.getElem?_cons_succ, List.getElem?_cons_zero]; exact rfl) ?s1_u1y1x18 ?s2_u1y1x18 ?s3_u1y1x18 ?s4_u1y1x18 ?s5_u1y1x18 ?s6_u1y1x18 ?s7_u1y1x18
                                      case s1_u1y1x18 => kernel_rfl
                                      case s2_u1y1x18 => kernel_rfl
                                      case s3_u1y1x18 => kernel_rfl
                                      case s4_u1y1x18 => exact fun _ _ _ h => h
                                      case s5_u1y1x18 => exact Or.inl ⟨rfl, by intro w hSw; (try dsimp only at hSw); go_simp; try with_reducible rfl⟩
                                      case s6_u1y1x18 => assumption
                                      try simp only [Act.put, List.setIfInBounds_toArray, List.set_cons_zero, List.set_cons_succ]
                                      with_reducible refine takeI2 (i := 1) (v := ?sv_u1y1x19) (oi := ?s0_u1y1x19) (by simp only [List.getElem?_toArray, List.getElem?_cons_succ, List.getElem?_cons_zero]; exact rfl) ?s1_u1y1x19 ?s2_u1y1x19 ?s3_u1y1x19 ?s4_u1y1x19 ?s5_u1y1x19 ?s6_u1y1x19 ?s7_u1y1x19
                                      case s1_u1y1x19 => kernel_rfl
                                      case s2_u1y1x19 => kernel_rfl
                                      case s3_u1y1x19 => kernel_rfl
                                      case s4_u1y1x19 => exact fun _ _ _ h => h
                                      case s5_u1y1x19 => exact Or.inl ⟨rfl, by intro w hSw; (try dsimp only at hSw); go_simp; try with_reducible rfl⟩
                                      case s6_u1y1x19 => assumption
                                      try simp only [Act.put, List.setIfInBounds_toArray, List.set_cons_zero, List.set_cons_succ]
                                      with_reducible refine takeI2 (i := 4) (v := ?sv_u1y1x20) (oi := ?s0_u1y1x20) (by simp only [List.getElem?_toArray, List.getElem?_cons_succ, List.getElem?_cons_zero]; exact rfl) ?s1_u1y1x20 ?s2_u1y1x20 ?s3_u1y1x20 ?s4_u1y1x20 ?s5_u1y1x20 ?s6_u1y1x20 ?s7_u1y1x20
                                      case s1_u1y1x20 => kernel_rfl
                                      case s2_u1y1x20 => kernel_rfl
                                      case s3_u1y1x20 => kernel_rfl
                                      case s4_u1y1x20 => exact fun _ _ _ h => h
                                      case s5_u1y1x20 => exact Or.inl ⟨rfl, by intro w hSw; (try dsimp only at hSw); go_simp; try with_reducible rfl⟩
                                      case s6_u1y1x20 => assumption
                                      try simp only [Act.put, List.setIfInBounds_toArray, List.set_cons_zero, List.set_cons_succ]
                                      with_reducible refine takeI2 (i := 5) (v := ?sv_u1y1x21) (oi := ?s0_u1y1x21) (by simp only [List.getElem?_toArray, List.getElem?_cons_succ, List.getElem?_cons_zero]; exact rfl) ?s1_u1y1x21 ?s2_u1y1x21 ?s3_u1y1x21 ?s4_u1y1x21 ?s5_u1y1x21 ?s6_u1y1x21 ?s7_u1y1x21
                                      case s1_u1y1x21 => kernel_rfl
                                      case s2_u1y1x21 => kernel_rfl
                                      case s3_u1y1x21 => kernel_rfl
                                      case s4_u1y1x21 => exact fun _ _ _ h => h
                                      case s5_u1y1x21 => exact Or.inl ⟨rfl, by intro w hSw; (try dsimp only at hSw); go_simp; try with_reducible rfl⟩
                                      case s6_u1y1x21 => assumption
                                      try simp only [Act.put, List.setIfInBounds_toArray, List.set_cons_zero, List.set_cons_succ]
                                      with_reducible refine wpAnyH_ready (rs := [2, 6]) ?s1_u1y1x22 (List.cons_ne_nil _ _) ?s2_u1y1x22
                                      case s1_u1y1x22 => kernel_rfl
                                      with_reducible refine AllReadyH.cons (o := ?b0_u1y1x22) (by simp only [List.getElem?_toArray, List.getElem?_cons_succ, List.getElem?_cons_zero]; exact rfl) ?b5_u1y1x22 (AllReadyH.cons (o := ?b1_u1y1x22) (by simp only [List.getElem?_toArray, List.getElem?_cons_succ, List.getElem?_cons_zero]; exact rfl) ?b6_u1y1x22 AllReadyH.nil)
                                      case b5_u1y1x22 =>
                                        intro K hK
                                        go_simp
                                        replace hsc := hsc.new P Q
                                        with_reducible refine hK.out _ _ ?s1_u1y1x23 (fun hHeld => ?s2_u1y1x23)
                                        case s1_u1y1x23 => exact hsc.cells (n := 1) (c := 1) (by simp)
                                        clear hK K
                                        try simp only [Act.put, List.setIfInBounds_toArray, List.set_cons_zero, List.set_cons_succ]
                                        with_reducible refine wpAnyH_ready (rs := [3, 6]) ?s1_u1y1x24 (List.cons_ne_nil _ _) ?s2_u1y1x24
                                        case s1_u1y1x24 => kernel_rfl
                                        with_reducible refine AllReadyH.cons (o := ?b0_u1y1x24) (by simp only [List.getElem?_toArray, List.getElem?_cons_succ, List.getElem?_cons_zero]; exact rfl) ?b5_u1y1x24 (AllReadyH.cons (o := ?b1_u1y1x24) (by simp only [List.getElem?_toArray, List.getElem?_cons_succ, List.getElem?_cons_zero]; exact rfl) ?b6_u1y1x24 AllReadyH.nil)
                                        case b5_u1y1x24 =>
                                          intro K hK
                                          refine step_appSpot rfl (.tmp 110) (.tmp 112) rfl _ w5.heap.size _ seen rfl hsc.drew.oa _ [(P, Q)] rfl hsc.drew.rd0 (by simp; omega) hsc.hB.size ?_
                                          intro v6 w6 o6 hg6 hn6
                                          replace hsc := hsc.drew.appA o6 hg6 hn6
                                          clear o6 hg6 hn6
                                          with_reducible refine hK.out _ _ ?s1_u1y1x25 (fun hHeld => ?s2_u1y1x25)
                                          case s1_u1y1x25 => exact hsc.cells (n := 1) (c := 1) (by simp)
                                          clear hK K
                                          try simp only [Act.put, List.setIfInBounds_toArray, List.set_cons_zero, List.set_cons_succ]
                                          with_reducible refine wpAnyH_ready (rs := [6]) ?s1_u1y1x26 (List.cons_ne_nil _ _) ?s2_u1y1x26
                                          case s1_u1y1x26 => kernel_rfl
                                          with_reducible refine AllReadyH.cons (o := ?b0_u1y1x26) (by simp only [List.getElem?_toArray, List.getElem?_cons_succ, List.getElem?_cons_zero]; exact rfl) ?b5_u1y1x26 AllReadyH.nil
                                          case b5_u1y1x26 =>
                                            intro K hK
                                            go_simp
                                            replace hsc := hsc.new P Q
                                            with_reducible refine hK.out _ _ ?s1_u1y1x27 (fun hHeld => ?s2_u1y1x27)
                                            case s1_u1y1x27 => exact hsc.cells (n := 1) (c := 1) (by simp)
                                            clear hK K
                                            try simp only [Act.put, List.setIfInBounds_toArray, List.set_cons_zero, List.set_cons_succ]
                                            with_reducible refine wpAnyH_ready (rs := [7]) ?s1_u1y1x28 (List.cons_ne_nil _ _) ?s2_u1y1x28
                                            case s1_u1y1x28 => kernel_rfl
                                            with_reducible refine AllReadyH.cons (o := ?b0_u1y1x28) (by simp only [List.getElem?_toArray, List.getElem?_cons_succ, List.getElem?_cons_zero]; exact rfl) ?b5_u1y1x28 AllReadyH.nil
                                            case b5_u1y1x28 =>
                                              intro K hK
                                              refine step_appSpot rfl (.tmp 114) (.tmp 116) rfl _ w5.heap.size _ next rfl hsc.ob _ [(P, Q)] rfl hsc.rd0 (by simp; omega) hsc.hB.size ?_
                                              intro v7 w7 o7 hg7 hn7
                                              replace hsc := hsc.appB o7 hg7 hn7
                                              clear o7 hg7 hn7
                                              with_reducible refine hK.out _ _ ?s1_u1y1x29 (fun hHeld => ?s2_u1y1x29)
                                              case s1_u1y1x29 => exact hsc.cells (n := 1) (c := 1) (by simp)
                                              clear hK K
                                              try simp only [Act.put, List.setIfInBounds_toArray, List.set_cons_zero, List.set_cons_succ]
                                              with_reducible refine takeI2 (i := 8) (v := ?sv_u1y1x30) (oi := ?s0_u1y1x30) (by simp only [List.getElem?_toArray, List.getElem?_cons_succ, List.getElem?_cons_zero]; exact rfl) ?s1_u1y1x30 ?s2_u1y1x30 ?s3_u1y1x30 ?s4_u1y1x30 ?s5_u1y1x30 ?s6_u1y1x30 ?s7_u1y1x30
                                              case s1_u1y1x30 => kernel_rfl
                                              case s2_u1y1x30 => kernel_rfl
                                              case s3_u1y1x30 => kernel_rfl
                                              case s4_u1y1x30 => exact fun _ _ _ h => h
                                              case s5_u1y1x30 => exact Or.inl ⟨rfl, by intro w hSw; (try dsimp only at hSw); go_simp; try with_reducible rfl⟩
                                              case s6_u1y1x30 => assumption
                                              try simp only [Act.put, List.setIfInBounds_toArray, List.set_cons_zero, List.set_cons_succ]
                                              with_reducible refine takeI2 (i := 9) (v := ?sv_u1y1x31) (oi := ?s0_u1y1x31) (by simp only [List.getElem?_toArray, List.getElem?_cons_succ, List.getElem?_cons_zero]; exact rfl) ?s1_u1y1x31 ?s2_u1y1x31 ?s3_u1y1x31 ?s4_u1y1x31 ?s5_u1y1x31 ?s6_u1y1x31 ?s7_u1y1x31
                                              case s1_u1y1x31 => kernel_rfl
                                              case s2_u1y1x31 => kernel_rfl
                                              case s3_u1y1x31 => kernel_rfl
                                              case s4_u1y1x31 => exact fun _ _ _ h => h
                                              case s5_u1y1x31 => exact Or.inl ⟨rfl, by intro w hSw; (try dsimp only at hSw); go_simp; try with_reducible rfl⟩
                                              case s6_u1y1x31 => assumption
                                              try simp only [Act.put, List.setIfInBounds_toArray, List.set_cons_zero, List.set_cons_succ]
                                              with_reducible refine wpAnyH_done ?s1_u1y1x32 ?s2_u1y1x32 _
                                              case s1_u1y1x32 => kernel_rfl
                                              go_wp2_with (fail)
                                              exact ⟨⟨f + 1, _, _, by omega, by go_num, hsc.sub (fun r hr => List.mem_cons_of_mem _ (List.mem_cons_of_mem _ (List.mem_cons_of_mem _ hr))), HP2.out⟩, by simp [intOf]; omega⟩
                                        case b6_u1y1x24 =>
                                          intro K hK
                                          go_simp
                                          replace hsc := hsc.new_at P Q (World.size_alloc _ _).symm
                                          with_reducible refine hK.out _ _ ?s1_u1y1x33 (fun hHeld => ?s2_u1y1x33)
                                          case s1_u1y1x33 => exact hsc.cells (n := 1) (c := 1) (by simp)
                                          clear hK K
                                          try simp only [Act.put, List.setIfInBounds_toArray, List.set_cons_zero, List.set_cons_succ]
                                          with_reducible refine wpAnyH_ready (rs := [3]) ?s1_u1y1x34 (List.cons_ne_nil _ _) ?s2_u1y1x34
                                          case s1_u1y1x34 => kernel_rfl
                                          with_reducible refine AllReadyH.cons (o := ?b0_u1y1x34) (by simp only [List.getElem?_toArray, List.getElem?_cons_succ, List.getElem?_cons_zero]; exact rfl) ?b5_u1y1x34 AllReadyH.nil
                                          case b5_u1y1x34 =>
                                            intro K hK
                                            refine step_appSpot rfl (.tmp 110) (.tmp 112) rfl _ w5.heap.size _ seen rfl hsc.drew.oa _ [(P, Q)] rfl hsc.drew.rd1 (by simp; omega) hsc.hB.size ?_
                                            intro v6 w6 o6 hg6 hn6
                                            replace hsc := hsc.drew.appA o6 hg6 hn6
                                            clear o6 hg6 hn6
                                            with_reducible refine hK.out _ _ ?s1_u1y1x35 (fun hHeld => ?s2_u1y1x35)
                                            case s1_u1y1x35 => exact hsc.cells (n := 1) (c := 1) (by simp)
                                            clear hK K
                                            try simp only [Act.put, List.setIfInBounds_toArray, List.set_cons_zero, List.set_cons_succ]
                                            with_reducible refine wpAnyH_ready (rs := [7]) ?s1_u1y1x36 (List.cons_ne_nil _ _) ?s2_u1y1x36
                                            case s1_u1y1x36 => kernel_rfl
                                            with_reducible refine AllReadyH.cons (o := ?b0_u1y1x36) (by simp only [List.getElem?_toArray, List.getElem?_cons_succ, List.getElem?_cons_zero]; exact rfl) ?b5_u1y1x36 AllReadyH.nil
                                            case b5_u1y1x36 =>
                                              intro K hK
                                              refine step_appSpot rfl (.tmp 114) (.tmp 116) rfl _ w5.heap.size _ next rfl hsc.ob _ [(P, Q)] rfl hsc.rd0 (by simp; omega) hsc.hB.size ?_
                                              intro v7 w7 o7 hg7 hn7
                                              replace hsc := hsc.appB o7 hg7 hn7
                                              clear o7 hg7 hn7
                                              with_reducible refine hK.out _ _ ?s1_u1y1x37 (fun hHeld => ?s2_u1y1x37)
                                              case s1_u1y1x37 => exact hsc.cells (n := 1) (c := 1) (by simp)
                                              clear hK K
                                              try simp only [Act.put, List.setIfInBounds_toArray, List.set_cons_zero, List.set_cons_succ]
                                              with_reducible refine takeI2 (i := 8) (v := ?sv_u1y1x38) (oi := ?s0_u1y1x38) (by simp only [List.getElem?_toArray, List.getElem?_cons_succ, List.getElem?_cons_zero]; exact rfl) ?s1_u1y1x38 ?s2_u1y1x38 ?s3_u1y1x38 ?s4_u1y1x38 ?s5_u1y1x38 ?s6_u1y1x38 ?s7_u1y1x38
                                              case s1_u1y1x38 => kernel_rfl
                                              case s2_u1y1x38 => kernel_rfl
                                              case s3_u1y1x38 => kernel_rfl
                                              case s4_u1y1x38 => exact fun _ _ _ h => h
                                              case s5_u1y1x38 => exact Or.inl ⟨rfl, by intro w hSw; (try dsimp only at hSw); go_simp; try with_reducible rfl⟩
                                              case s6_u1y1x38 => assumption
                                              try simp only [Act.put, List.setIfInBounds_toArray, List.set_cons_zero, List.set_cons_succ]
                                              with_reducible refine takeI2 (i := 9) (v := ?sv_u1y1x39) (oi := ?s0_u1y1x39) (by simp only [List.getElem?_toArray, List.getElem?_cons_succ, List.getElem?_cons_zero]; exact rfl) ?s1_u1y1x39 ?s2_u1y1x39 ?s3_u1y1x39 ?s4_u1y1x39 ?s5_u1y1x39 ?s6_u1y1x39 ?s7_u1y1x39
                                              case s1_u1y1x39 => kernel_rfl
                                              case s2_u1y1x39 => kernel_rfl
                                              case s3_u1y1x39 => kernel_rfl
                                              case s4_u1y1x39 => exact fun _ _ _ h => h
                                              case s5_u1y1x39 => exact Or.inl ⟨rfl, by intro w hSw; (try dsimp only at hSw); go_simp; try with_reducible rfl⟩
                                              case s6_u1y1x39 => assumption
                                              try simp only [Act.put, List.setIfInBounds_toArray, List.set_cons_zero, List.set_cons_succ]
                                              with_reducible refine wpAnyH_done ?s1_u1y1x40 ?s2_u1y1x40 _
                                              case s1_u1y1x40 => kernel_rfl
                                              go_wp2_with (fail)
                                              exact ⟨⟨f + 1, _, _, by omega, by go_num, hsc.sub (fun r hr => List.mem_cons_of_mem _ (List.mem_cons_of_mem _ (List.mem_cons_of_mem _ hr))), HP2.out⟩, by simp [intOf]; omega⟩
                                      case b6_u1y1x22 =>
                                        intro K hK
                                        go_simp
                                        replace hsc := hsc.new P Q
                                        with_reducible refine hK.out _ _ ?s1_u1y1x41 (fun hHeld => ?s2_u1y1x41)
                                        case s1_u1y1x41 => exact hsc.cells (n := 1) (c := 1) (by simp)
                                        clear hK K
                                        try simp only [Act.put, List.setIfInBounds_toArray, List.set_cons_zero, List.set_cons_succ]
                                        with_reducible refine wpAnyH_ready (rs := [2]) ?s1_u1y1x42 (List.cons_ne_nil _ _) ?s2_u1y1x42
                                        case s1_u1y1x42 => kernel_rfl
                                        with_reducible refine AllReadyH.cons (o := ?b0_u1y1x42) (by simp only [List.getElem?_toArray, List.getElem?_cons_succ, List.getElem?_cons_zero]; exact rfl) ?b5_u1y1x42 AllReadyH.nil
                                        case b5_u1y1x42 =>
                                          intro K hK
                                          go_simp
                                          replace hsc := hsc.new_at P Q (World.size_alloc _ _).symm
                                          with_reducible refine hK.out _ _ ?s1_u1y1x43 (fun hHeld => ?s2_u1y1x43)
                                          case s1_u1y1x43 => exact hsc.cells (n := 1) (c := 1) (by simp)
                                          clear hK K
                                          try simp only [Act.put, List.setIfInBounds_toArray, List.set_cons_zero, List.set_cons_succ]
                                          with_reducible refine wpAnyH_ready (rs := [3]) ?s1_u1y1x44 (List.cons_ne_nil _ _) ?s2_u1y1x44
                                          case s1_u1y1x44 => kernel_rfl
                                          with_reducible refine AllReadyH.cons (o := ?b0_u1y1x44) (by simp only [List.getElem?_toArray, List.getElem?_cons_succ, List.getElem?_cons_zero]; exact rfl) ?b5_u1y1x44 AllReadyH.nil
                                          case b5_u1y1x44 =>
                                            intro K hK
                                            refine step_appSpot rfl (.tmp 110) (.tmp 112) rfl _ w5.heap.size _ seen rfl hsc.drew.oa _ [(P, Q)] rfl hsc.drew.rd0 (by simp; omega) hsc.hB.size ?_
                                            intro v6 w6 o6 hg6 hn6
                                            replace hsc := hsc.drew.appA o6 hg6 hn6
                                            clear o6 hg6 hn6
                                            with_reducible refine hK.out _ _ ?s1_u1y1x45 (fun hHeld => ?s2_u1y1x45)
                                            case s1_u1y1x45 => exact hsc.cells (n := 1) (c := 1) (by simp)
                                            clear hK K
                                            try simp only [Act.put, List.setIfInBounds_toArray, List.set_cons_zero, List.set_cons_succ]
                                            with_reducible refine wpAnyH_ready (rs := [7]) ?s1_u1y1x46 (List.cons_ne_nil _ _) ?s2_u1y1x46
                                            case s1_u1y1x46 => kernel_rfl
                                            with_reducible refine AllReadyH.cons (o := ?b0_u1y1x46) (by simp only [List.getElem?_toArray, List.getElem?_cons_succ, List.getElem?_cons_zero]; exact rfl) ?b5_u1y1x46 AllReadyH.nil
                                            case b5_u1y1x46 =>
                                              intro K hK
                                              refine step_appSpot rfl (.tmp 114) (.tmp 116) rfl _ w5.heap.size _ next rfl hsc.ob _ [(P, Q)] rfl hsc.rd1 (by simp; omega) hsc.hB.size ?_
                                              intro v7 w7 o7 hg7 hn7
                                              replace hsc := hsc.appB o7 hg7 hn7
                                              clear o7 hg7 hn7
                                              with_reducible refine hK.out _ _ ?s1_u1y1x47 (fun hHeld => ?s2_u1y1x47)
                                              case s1_u1y1x47 => exact hsc.cells (n := 1) (c := 1) (by simp)
                                              clear hK K
                                              try simp only [Act.put, List.setIfInBounds_toArray, List.set_cons_zero, List.set_cons_succ]
                                              with_reducible refine takeI2 (i := 8) (v := ?sv_u1y1x48) (oi := ?s0_u1y1x48) (by simp only [List.getElem?_toArray, List.getElem?_cons_succ, List.getElem?_cons_zero]; exact rfl) ?s1_u1y1x48 ?s2_u1y1x48 ?s3_u1y1x48 ?s4_u1y1x48 ?s5_u1y1x48 ?s6_u1y1x48 ?s7_u1y1x48
                                              case s1_u1y1x48 => kernel_rfl
                                              case s2_u1y1x48 => kernel_rfl
                                              case s3_u1y1x48 => kernel_rfl
                                              case s4_u1y1x48 => exact fun _ _ _ h => h
                                              case s5_u1y1x48 => exact Or.inl ⟨rfl, by intro w hSw; (try dsimp only at hSw); go_simp; try with_reducible rfl⟩
                                              case s6_u1y1x48 => assumption
                                              try simp only [Act.put, List.setIfInBounds_toArray, List.set_cons_zero, List.set_cons_succ]
                                              with_reducible refine takeI2 (i := 9) (v := ?sv_u1y1x49) (oi := ?s0_u1y1x49) (by simp only [List.getElem?_toArray, List.getElem?_cons_succ, List.getElem?_cons_zero]; exact rfl) ?s1_u1y1x49 ?s2_u1y1x49 ?s3_u1y1x49 ?s4_u1y1x49 ?s5_u1y1x49 ?s6_u1y1x49 ?s7_u1y1x49
                                              case s1_u1y1x49 => kernel_rfl
                                              case s2_u1y1x49 => kernel_rfl
                                              case s3_u1y1x49 => kernel_rfl
                                              case s4_u1y1x49 => exact fun _ _ _ h => h
                                              case s5_u1y1x49 => exact Or.inl ⟨rfl, by intro w hSw; (try dsimp only at hSw); go_simp; try with_reducible rfl⟩
                                              case s6_u1y1x49 => assumption
                                              try simp only [Act.put, List.setIfInBounds_toArray, List.set_cons_zero, List.set_cons_succ]
                                              with_reducible refine wpAnyH_done ?s1_u1y1x50 ?s2_u1y1x50 _
                                              case s1_u1y1x50 => kernel_rfl
                                              go_wp2_with (fail)
                                              exact ⟨⟨f + 1, _, _, by omega, by go_num, hsc.sub (fun r hr => List.mem_cons_of_mem _ (List.mem_cons_of_mem _ (List.mem_cons_of_mem _ hr))), HP2.out⟩, by simp [intOf]; omega⟩
                                    · have hm : (P, Q) ∈ seen := Classical.byContradiction fun h => hz0 (hzF.2 h)
                                      have HK2 : Hid (Scan wd ht (freeS wd ht zs kn) (s0, sy) (t0, t1) c now j (3 * d + (f + 1)) seen next) := HSC.out.skip HX.out (fun hfr => by rw [HNB.out]; exact hm)
                                      clear HSC
                                      clear hzF hz hm
                                      go_wp2_with (fail)
                                      exact ⟨⟨f + 1, seen, next, by omega, by go_num, hsc.sub (fun r hr => List.mem_cons_of_mem _ hr), HK2.out⟩, by simp [intOf]; omega⟩
                                  · have hm : isO zs kn zs.length (P, Q) := Classical.byContradiction fun h => hy0 (hyF.2 h)
                                    have HK2 : Hid (Scan wd ht (freeS wd ht zs kn) (s0, sy) (t0, t1) c now j (3 * d + (f + 1)) seen next) := HSC.out.skip HX.out (fun hfr => absurd hm (by rw [HNB.out] at hfr; exact hfr.2))
                                    clear HSC
                                    clear hyF hy hm
                                    go_wp2_with (fail)
                                    exact ⟨⟨f + 1, seen, next, by omega, by go_num, hsc.sub (fun r hr => List.mem_cons_of_mem _ hr), HK2.out⟩, by simp [intOf]; omega⟩
                              · obtain rfl : f = 3 := by omega
                                go_wp2_with (fail)
                                exact ⟨⟨d + 1, seen, next, by omega, by go_num, hsc, by rw [show 3 * (d + 1) = 3 * d + 3 by omega]; exact HSC.out⟩, by simp [intOf]; omega⟩
                          · obtain rfl : d = 3 := by omega
                            have HN2 : Hid (Scan wd ht (freeS wd ht zs kn) (s0, sy) (t0, t1) c now (j + 1) 0 seen next) := HSC.out.step HX.out HXT.out
                            clear HSC
                            go_wp2_with (fail)
                            exact ⟨⟨j + 1, seen, next, by omega, by go_num, hsc.sub (fun r hr => List.mem_cons_of_mem _ hr), HN2.out⟩, by simp [intOf]; omega⟩
                    · have e0b : (x0 == t0) = false := beq_eq_false_iff_ne.2 e0
                      have HXT : Hid ((x0, x1) ≠ (t0, t1)) := fun h => e0 (by cases h; rfl)
                      clear hsc e0
                      go_wp2_with (fail)
                      have hsc := HA.out
                      clear m0' m1' c0 c1 HA
                      generalize wr.alloc (.cells #[.int .i64 x0, .int .i64 x1] 50) = wq at hsc ⊢
                      generalize wr.heap.size = gs at hsc ⊢
                      go_loopw [12, 15, 18] (fun a b i wr => ∃ (d : Nat) (seen next : List Sp), d ≤ 3 ∧ i = .int .i64 ((d : Int) - 1) ∧ Sc w5 wr a b seen next [(.slice (some ⟨gs, 0, none⟩) 1 1, [(x0, x1)]), (.slice (some ⟨gn, 0, none⟩) now.length cn, now)] ∧ Hid (Scan wd ht (freeS wd ht zs kn) (s0, sy) (t0, t1) c now j (3 * d) seen next)) (fun _ _ i _ => (2 - intOf i).toNat)
                      case atStart => exact ⟨0, seen, next, by omega, rfl, hsc, HSC.out⟩
                      case round =>
                       focus
                        clear hsc HSC
                        obtain ⟨d, seen, next, hd, rfl, hsc, HSC⟩ := hrel
                        by_cases hd3 : d < 3
                        · have hdd : (d : Int) - 1 ≤ 1 := by omega
                          go_wp2_with (fail)
                          go_loopw [12, 15, 19] (fun a b i wr => ∃ (f : Nat) (seen next : List Sp), f ≤ 3 ∧ i = .int .i64 ((f : Int) - 1) ∧ Sc w5 wr a b seen next [(.slice (some ⟨gs, 0, none⟩) 1 1, [(x0, x1)]), (.slice (some ⟨gn, 0, none⟩) now.length cn, now)] ∧ Hid (Scan wd ht (freeS wd ht zs kn) (s0, sy) (t0, t1) c now j (3 * d + f) seen next)) (fun _ _ i _ => (2 - intOf i).toNat)
                          case atStart => exact ⟨0, seen, next, by omega, rfl, hsc, HSC.out⟩
                          case round =>
                           focus
                            clear hsc HSC
                            obtain ⟨f, seen, next, hf, rfl, hsc, HSC⟩ := hrel
                            by_cases hf3 : f < 3
                            · have hff : (f : Int) - 1 ≤ 1 := by omega
                              have hsl : seen.length ≤ 144 ∧ next.length ≤ 144 := by
                                have := grid_144 hwb hhb HSC.out.nodup HSC.out.grid
                                have := HSC.out.cnt
                                omega
                              obtain ⟨hsl1, hsl2⟩ := hsl
                              obtain ⟨m0, m1⟩ := rdSpot_cell (i := 0) hsc.rd0 rfl
                              rw [Nat.zero_mul] at m0 m1
                              have HXC := Lib.hid (And.intro m0 m1)
                              clear m0 m1
                              obtain ⟨P, hP⟩ : ∃ P, x0 + ((d : Int) - 1) = P := ⟨_, rfl⟩
                              obtain ⟨Q, hQ⟩ : ∃ Q, x1 + ((f : Int) - 1) = Q := ⟨_, rfl⟩
                              have hnb : nbI (x0, x1) (3 * d + f) = (P, Q) := by
                                unfold nbI
                                rw [show (3 * d + f) / 3 = d by omega, show (3 * d + f) % 3 = f by omega, ← hP, ← hQ]
                                exact Prod.ext (by dsimp only; omega) (by dsimp only; omega)
                              have HNB := Lib.hid hnb
                              have wP : IntKind.i64.wrap (x0 + ((d : Int) - 1)) = P := by rw [hP]; exact IntWalk.i64_in _ (by omega)
                              have wQ : IntKind.i64.wrap (x1 + ((f : Int) - 1)) = Q := by rw [hQ]; exact IntWalk.i64_in _ (by omega)
                              have HIS := Lib.hid (fun u => isSpot_any wd ht P Q hwb hhb u)
                              obtain ⟨y0, y1⟩ := HXC.out
                              have HA := Lib.hid (hsc.new P Q)
                              clear hnb hP hQ hsc HXC
                              go_wp2_with (fail)
                              generalize wr.alloc (.cells #[.int .i64 P, .int .i64 Q] 50) = wt at HA ⊢
                              generalize wr.heap.size = gt at HA ⊢
                              have hsc := HA.out
                              clear HA y0 y1
                              obtain ⟨m0, m1⟩ := hsc.cells (g := gt) (p := P) (q := Q) (n := 1) (c := 1) (by simp)
                              cases h5 : spotB wd ht (P, Q) with
                              | false =>
                                rw [h5] at HIS
                                have HK2 : Hid (Scan wd ht (freeS wd ht zs kn) (s0, sy) (t0, t1) c now j (3 * d + (f + 1)) seen next) := HSC.out.skip HX.out (fun hfr => absurd hfr.1 (by rw [HNB.out, h5]; simp))
                                clear HSC
                                refine (HIS.out _).mono ?_
                                rintro e w6 ⟨rfl, hb6⟩
                                replace hsc := hsc.below hb6
                                clear m0 m1
                                obtain ⟨m0, m1⟩ := hsc.cells (g := gt) (p := P) (q := Q) (n := 1) (c := 1) (by simp)
                                clear hb6
                                clear m0 m1 HIS
                                go_wp2_with (fail)
                                exact ⟨⟨f + 1, seen, next, by omega, by go_num, hsc.sub (fun r hr => List.mem_cons_of_mem _ hr), HK2.out⟩, by simp [intOf]; omega⟩
                              | true =>
                                rw [h5] at HIS
                                refine (HIS.out _).mono ?_
                                rintro e w6 ⟨rfl, hb6⟩
                                replace hsc := hsc.below hb6
                                clear m0 m1
                                obtain ⟨m0, m1⟩ := hsc.cells (g := gt) (p := P) (q := Q) (n := 1) (c := 1) (by simp)
                                clear hb6
                                clear HIS
                                go_wp2_with (fail)
                                refine (spotOf_any (zs.take kn ++ zs.drop k1) P Q _ _ (hro.below hsc.hB)).mono ?_
                                rintro e w6 ⟨rfl, hb6⟩
                                replace hsc := hsc.below hb6
                                clear m0 m1
                                obtain ⟨m0, m1⟩ := hsc.cells (g := gt) (p := P) (q := Q) (n := 1) (c := 1) (by simp)
                                clear hb6
                                obtain ⟨y, hy⟩ : ∃ y, spotOfF (P, Q) (zs.take kn ++ zs.drop k1) 0 = y := ⟨_, rfl⟩
                                have hyF : y < 0 ↔ ¬ isO zs kn zs.length (P, Q) := by
                                  rw [← hy, ← others_iff, ← HK1.out, ← hasSpot_mem, ← spotOfF_ge (P, Q) _ 0 (Int.le_refl _), Int.not_le]
                                rw [hy]
                                by_cases hy0 : y < 0
                                · have hO := hyF.1 hy0
                                  have HO := Lib.hid hO
                                  clear hyF hy hO
                                  go_wp2_with (fail)
                                  refine (spotOf_any seen P Q _ _ hsc.oa.rd).mono ?_
                                  rintro e w6 ⟨rfl, hb6⟩
                                  replace hsc := hsc.below hb6
                                  clear m0 m1
                                  obtain ⟨m0, m1⟩ := hsc.cells (g := gt) (p := P) (q := Q) (n := 1) (c := 1) (by simp)
                                  clear hb6
                                  obtain ⟨z, hz⟩ : ∃ z, spotOfF (P, Q) seen 0 = z := ⟨_, rfl⟩
                                  have hzF : z < 0 ↔ (P, Q) ∉ seen := by
                                    rw [← hz, ← hasSpot_mem, ← spotOfF_ge (P, Q) _ 0 (Int.le_refl _), Int.not_le]
                                  rw [hz]
                                  by_cases hz0 : z < 0
                                  · have HP2 : Hid (Scan wd ht (freeS wd ht zs kn) (s0, sy) (t0, t1) c now j (3 * d + (f + 1)) (seen ++ [(P, Q)]) (next ++ [(P, Q)])) := by
                                      have h := HSC.out.push HX.out (by rw [HNB.out]; exact h5) (by rw [HNB.out]; exact ⟨h5, HO.out⟩) (by rw [HNB.out]; exact hzF.1 hz0)
                                      rw [HNB.out] at h
                                      exact h
                                    clear hzF hz HSC
                                    go_wp2_with (fail)
                                    with_reducible refine region_beg (n := 10) (S := (fun w' => w'.cell? ⟨gt, 0, none⟩ = some (.int .i64 P) ∧ w'.cell? ⟨gt, 1, none⟩ = some (.int .i64 Q))) ?b1_u1y2x17 ?b2_u1y2x17 ?b3_u1y2x17 (fun hHeld => ?b4_u1y2x17)
                                    case b1_u1y2x17 => kernel_rfl
                                    case b2_u1y2x17 => kernel_rfl
                                    case b3_u1y2x17 => exact hsc.cells (n := 1) (c := 1) (by simp)
                                    with_reducible refine takeI2 (i := 0) (v := ?sv_u1y2x18) (oi := ?s0_u1y2x18) (by simp only [List.getElem?_toArray, List.getElem?_cons_succ, List.getElem?_cons_zero]; exact rfl) ?s1_u1y2x18 ?s2_u1y2x18 ?s3_u1y2x18 ?s4_u1y2x18 ?s5_u1y2x18 ?s6_u1y2x18 ?s7_u1y2x18
                                    case s1_u1y2x18 => kernel_rfl
                                    case s2_u1y2x18 => kernel_rfl
                                    case s3_u1y2x18 => kernel_rfl
                                    case s4_u1y2x18 => exact fun _ _ _ h => h
                                    case s5_u1y2x18 => exact Or.inl ⟨rfl, by intro w hSw; (try dsimp only at hSw); go_simp; try with_reducible rfl⟩
                                    case s6_u1y2x18 => assumption
                                    try simp only [Act.put, List.setIfInBounds_toArray, List.set_cons_zero, List.set_cons_succ]
                                    with_reducible refine takeI2 (i := 1) (v := ?sv_u1y2x19) (oi := ?s0_u1y2x19) (by simp only [List.getElem?_toArray, List.getElem?_cons_succ, List.getElem?_cons_zero]; exact rfl) ?s1_u1y2x19 ?s2_u1y2x19 ?s3_u1y2x19 ?s4_u1y2x19 ?s5_u1y2x19 ?s6_u1y2x19 ?s7_u1y2x19
                                    case s1_u1y2x19 => kernel_rfl
                                    case s2_u1y2x19 => kernel_rfl
                                    case s3_u1y2x19 => kernel_rfl
                                    case s4_u1y2x19 => exact fun _ _ _ h => h
                                    case s5_u1y2x19 => exact Or.inl ⟨rfl, by intro w hSw; (try dsimp only at hSw); go_simp; try with_reducible rfl⟩
                                    case s6_u1y2x19 => assumption
                                    try simp only [Act.put, List.setIfInBounds_toArray, List.set_cons_zero, List.set_cons_succ]
                                    with_reducible refine takeI2 (i := 4) (v := ?sv_u1y2x20) (oi := ?s0_u1y2x20) (by simp only [List.getElem?_toArray, List.getElem?_cons_succ, List.getElem?_cons_zero]; exact rfl) ?s1_u1y2x20 ?s2_u1y2x20 ?s3_u1y2x20 ?s4_u1y2x20 ?s5_u1y2x20 ?s6_u1y2x20 ?s7_u1y2x20
                                    case s1_u1y2x20 => kernel_rfl
                                    case s2_u1y2x20 => kernel_rfl
                                    case s3_u1y2x20 => kernel_rfl
                                    case s4_u1y2x20 => exact fun _ _ _ h => h
                                    case s5_u1y2x20 => exact Or.inl ⟨rfl, by intro w hSw; (try dsimp only at hSw); go_simp; try with_reducible rfl⟩
                                    case s6_u1y2x20 => assumption
                                    try simp only [Act.put, List.setIfInBounds_toArray, List.set_cons_zero, List.set_cons_succ]
                                    with_reducible refine takeI2 (i := 5) (v := ?sv_u1y2x21) (oi := ?s0_u1y2x21) (by simp only [List.getElem?_toArray, List.getElem?_cons_succ, List.getElem?_cons_zero]; exact rfl) ?s1_u1y2x21 ?s2_u1y2x21 ?s3_u1y2x21 ?s4_u1y2x21 ?s5_u1y2x21 ?s6_u1y2x21 ?s7_u1y2x21
                                    case s1_u1y2x21 => kernel_rfl
                                    case s2_u1y2x21 => kernel_rfl
                                    case s3_u1y2x21 => kernel_rfl
                                    case s4_u1y2x21 => exact fun _ _ _ h => h
                                    case s5_u1y2x21 => exact Or.inl ⟨rfl, by intro w hSw; (try dsimp only at hSw); go_simp; try with_reducible rfl⟩
                                    case s6_u1y2x21 => assumption
                                    try simp only [Act.put, List.setIfInBounds_toArray, List.set_cons_zero, List.set_cons_succ]
                                    with_reducible refine wpAnyH_ready (rs := [2, 6]) ?s1_u1y2x22 (List.cons_ne_nil _ _) ?s2_u1y2x22
                                    case s1_u1y2x22 => kernel_rfl
                                    with_reducible refine AllReadyH.cons (o := ?b0_u1y2x22) (by simp only [List.getElem?_toArray, List.getElem?_cons_succ, List.getElem?_cons_zero]; exact rfl) ?b5_u1y2x22 (AllReadyH.cons (o := ?b1_u1y2x22) (by simp only [List.getElem?_toArray, List.getElem?_cons_succ, List.getElem?_cons_zero]; exact rfl) ?b6_u1y2x22 AllReadyH.nil)
                                    case b5_u1y2x22 =>
                                      intro K hK
                                      go_simp
                                      replace hsc := hsc.new P Q
                                      with_reducible refine hK.out _ _ ?s1_u1y2x23 (fun hHeld => ?s2_u1y2x23)
                                      case s1_u1y2x23 => exact hsc.cells (n := 1) (c := 1) (by simp)
                                      clear hK K
                                      try simp only [Act.put, List.setIfInBounds_toArray, List.set_cons_zero, List.set_cons_succ]
                                      with_reducible refine wpAnyH_ready (rs := [3, 6]) ?s1_u1y2x24 (List.cons_ne_nil _ _) ?s2_u1y2x24
                                      case s1_u1y2x24 => kernel_rfl
                                      with_reducible refine AllReadyH.cons (o := ?b0_u1y2x24) (by simp only [List.getElem?_toArray, List.getElem?_cons_succ, List.getElem?_cons_zero]; exact rfl) ?b5_u1y2x24 (AllReadyH.cons (o := ?b1_u1y2x24) (by simp only [List.getElem?_toArray, List.getElem?_cons_succ, List.getElem?_cons_zero]; exact rfl) ?b6_u1y2x24 AllReadyH.nil)
                                      case b5_u1y2x24 =>
                                        intro K hK
                                        refine step_appSpot rfl (.tmp 110) (.tmp 112) rfl _ w5.heap.size _ seen rfl hsc.drew.oa _ [(P, Q)] rfl hsc.drew.rd0 (by simp; omega) hsc.hB.size ?_
                                        intro v6 w6 o6 hg6 hn6
                                        replace hsc := hsc.drew.appA o6 hg6 hn6
                                        clear o6 hg6 hn6
                                        with_reducible refine hK.out _ _ ?s1_u1y2x25 (fun hHeld => ?s2_u1y2x25)
                                        case s1_u1y2x25 => exact hsc.cells (n := 1) (c := 1) (by simp)
                                        clear hK K
                                        try simp only [Act.put, List.setIfInBounds_toArray, List.set_cons_zero, List.set_cons_succ]
                                        with_reducible refine wpAnyH_ready (rs := [6]) ?s1_u1y2x26 (List.cons_ne_nil _ _) ?s2_u1y2x26
                                        case s1_u1y2x26 => kernel_rfl
                                        with_reducible refine AllReadyH.cons (o := ?b0_u1y2x26) (by simp only [List.getElem?_toArray, List.getElem?_cons_succ, List.getElem?_cons_zero]; exact rfl) ?b5_u1y2x26 AllReadyH.nil
                                        case b5_u1y2x26 =>
                                          intro K hK
                                          go_simp
                                          replace hsc := hsc.new P Q
                                          with_reducible refine hK.out _ _ ?s1_u1y2x27 (fun hHeld => ?s2_u1y2x27)
                                          case s1_u1y2x27 => exact hsc.cells (n := 1) (c := 1) (by simp)
                                          clear hK K
                                          try simp only [Act.put, List.setIfInBounds_toArray, List.set_cons_zero, List.set_cons_succ]
                                          with_reducible refine wpAnyH_ready (rs := [7]) ?s1_u1y2x28 (List.cons_ne_nil _ _) ?s2_u1y2x28
                                          case s1_u1y2x28 => kernel_rfl
                                          with_reducible refine AllReadyH.cons (o := ?b0_u1y2x28) (by simp only [List.getElem?_toArray, List.getElem?_cons_succ, List.getElem?_cons_zero]; exact rfl) ?b5_u1y2x28 AllReadyH.nil
                                          case b5_u1y2x28 =>
                                            intro K hK
                                            refine step_appSpot rfl (.tmp 114) (.tmp 116) rfl _ w5.heap.size _ next rfl hsc.ob _ [(P, Q)] rfl hsc.rd0 (by simp; omega) hsc.hB.size ?_
                                            intro v7 w7 o7 hg7 hn7
                                            replace hsc := hsc.appB o7 hg7 hn7
                                            clear o7 hg7 hn7
                                            with_reducible refine hK.out _ _ ?s1_u1y2x29 (fun hHeld => ?s2_u1y2x29)
                                            case s1_u1y2x29 => exact hsc.cells (n := 1) (c := 1) (by simp)
                                            clear hK K
                                            try simp only [Act.put, List.setIfInBounds_toArray, List.set_cons_zero, List.set_cons_succ]
                                            with_reducible refine takeI2 (i := 8) (v := ?sv_u1y2x30) (oi := ?s0_u1y2x30) (by simp only [List.getElem?_toArray, List.getElem?_cons_succ, List.getElem?_cons_zero]; exact rfl) ?s1_u1y2x30 ?s2_u1y2x30 ?s3_u1y2x30 ?s4_u1y2x30 ?s5_u1y2x30 ?s6_u1y2x30 ?s7_u1y2x30
                                            case s1_u1y2x30 => kernel_rfl
                                            case s2_u1y2x30 => kernel_rfl
                                            case s3_u1y2x30 => kernel_rfl
                                            case s4_u1y2x30 => exact fun _ _ _ h => h
                                            case s5_u1y2x30 => exact Or.inl ⟨rfl, by intro w hSw; (try dsimp only at hSw); go_simp; try with_reducible rfl⟩
                                            case s6_u1y2x30 => assumption
                                            try simp only [Act.put, List.setIfInBounds_toArray, List.set_cons_zero, List.set_cons_succ]
                                            with_reducible refine takeI2 (i := 9) (v := ?sv_u1y2x31) (oi := ?s0_u1y2x31) (by simp only [List.getElem?_toArray, List.getElem?_cons_succ, List.getElem?_cons_zero]; exact rfl) ?s1_u1y2x31 ?s2_u1y2x31 ?s3_u1y2x31 ?s4_u1y2x31 ?s5_u1y2x31 ?s6_u1y2x31 ?s7_u1y2x31
                                            case s1_u1y2x31 => kernel_rfl
                                            case s2_u1y2x31 => kernel_rfl
                                            case s3_u1y2x31 => kernel_rfl
                                            case s4_u1y2x31 => exact fun _ _ _ h => h
                                            case s5_u1y2x31 => exact Or.inl ⟨rfl, by intro w hSw; (try dsimp only at hSw); go_simp; try with_reducible rfl⟩
                                            case s6_u1y2x31 => assumption
                                            try simp only [Act.put, List.setIfInBounds_toArray, List.set_cons_zero, List.set_cons_succ]
                                            with_reducible refine wpAnyH_done ?s1_u1y2x32 ?s2_u1y2x32 _
                                            case s1_u1y2x32 => kernel_rfl
                                            go_wp2_with (fail)
                                            exact ⟨⟨f + 1, _, _, by omega, by go_num, hsc.sub (fun r hr => List.mem_cons_of_mem _ (List.mem_cons_of_mem _ (List.mem_cons_of_mem _ hr))), HP2.out⟩, by simp [intOf]; omega⟩
                                      case b6_u1y2x24 =>
                                        intro K hK
                                        go_simp
                                        replace hsc := hsc.new_at P Q (World.size_alloc _ _).symm
                                        with_reducible refine hK.out _ _ ?s1_u1y2x33 (fun hHeld => ?s2_u1y2x33)
                                        case s1_u1y2x33 => exact hsc.cells (n := 1) (c := 1) (by simp)
                                        clear hK K
                                        try simp only [Act.put, List.setIfInBounds_toArray, List.set_cons_zero, List.set_cons_succ]
                                        with_reducible refine wpAnyH_ready (rs := [3]) ?s1_u1y2x34 (List.cons_ne_nil _ _) ?s2_u1y2x34
                                        case s1_u1y2x34 => kernel_rfl
                                        with_reducible refine AllReadyH.cons (o := ?b0_u1y2x34) (by simp only [List.getElem?_toArray, List.getElem?_cons_succ, List.getElem?_cons_zero]; exact rfl) ?b5_u1y2x34 AllReadyH.nil
                                        case b5_u1y2x34 =>
                                          intro K hK
                                          refine step_appSpot rfl (.tmp 110) (.tmp 112) rfl _ w5.heap.size _ seen rfl hsc.drew.oa _ [(P, Q)] rfl hsc.drew.rd1 (by simp; omega) hsc.hB.size ?_
                                          intro v6 w6 o6 hg6 hn6
                                          replace hsc := hsc.drew.appA o6 hg6 hn6
                                          clear o6 hg6 hn6
                                          with_reducible refine hK.out _ _ ?s1_u1y2x35 (fun hHeld => ?s2_u1y2x35)
                                          case s1_u1y2x35 => exact hsc.cells (n := 1) (c := 1) (by simp)
                                          clear hK K
                                          try simp only [Act.put, List.setIfInBounds_toArray, List.set_cons_zero, List.set_cons_succ]
                                          with_reducible refine wpAnyH_ready (rs := [7]) ?s1_u1y2x36 (List.cons_ne_nil _ _) ?s2_u1y2x36
                                          case s1_u1y2x36 => kernel_rfl
                                          with_reducible refine AllReadyH.cons (o := ?b0_u1y2x36) (by simp only [List.getElem?_toArray, List.getElem?_cons_succ, List.getElem?_cons_zero]; exact rfl) ?b5_u1y2x36 AllReadyH.nil
                                          case b5_u1y2x36 =>
                                            intro K hK
                                            refine step_appSpot rfl (.tmp 114) (.tmp 116) rfl _ w5.heap.size _ next rfl hsc.ob _ [(P, Q)] rfl hsc.rd0 (by simp; omega) hsc.hB.size ?_
                                            intro v7 w7 o7 hg7 hn7
                                            replace hsc := hsc.appB o7 hg7 hn7
                                            clear o7 hg7 hn7
                                            with_reducible refine hK.out _ _ ?s1_u1y2x37 (fun hHeld => ?s2_u1y2x37)
                                            case s1_u1y2x37 => exact hsc.cells (n := 1) (c := 1) (by simp)
                                            clear hK K
                                            try simp only [Act.put, List.setIfInBounds_toArray, List.set_cons_zero, List.set_cons_succ]
                                            with_reducible refine takeI2 (i := 8) (v := ?sv_u1y2x38) (oi := ?s0_u1y2x38) (by simp only [List.getElem?_toArray, List.getElem?_cons_succ, List.getElem?_cons_zero]; exact rfl) ?s1_u1y2x38 ?s2_u1y2x38 ?s3_u1y2x38 ?s4_u1y2x38 ?s5_u1y2x38 ?s6_u1y2x38 ?s7_u1y2x38
                                            case s1_u1y2x38 => kernel_rfl
                                            case s2_u1y2x38 => kernel_rfl
                                            case s3_u1y2x38 => kernel_rfl
                                            case s4_u1y2x38 => exact fun _ _ _ h => h
                                            case s5_u1y2x38 => exact Or.inl ⟨rfl, by intro w hSw; (try dsimp only at hSw); go_simp; try with_reducible rfl⟩
                                            case s6_u1y2x38 => assumption
                                            try simp only [Act.put, List.setIfInBounds_toArray, List.set_cons_zero, List.set_cons_succ]
                                            with_reducible refine takeI2 (i := 9) (v := ?sv_u1y2x39) (oi := ?s0_u1y2x39) (by simp only [List.getElem?_toArray, List.getElem?_cons_succ, List.getElem?_cons_zero]; exact rfl) ?s1_u1y2x39 ?s2_u1y2x39 ?s3_u1y2x39 ?s4_u1y2x39 ?s5_u1y2x39 ?s6_u1y2x39 ?s7_u1y2x39
                                            case s1_u1y2x39 => kernel_rfl
                                            case s2_u1y2x39 => kernel_rfl
                                            case s3_u1y2x39 => kernel_rfl
                                            case s4_u1y2x39 => exact fun _ _ _ h => h
                                            case s5_u1y2x39 => exact Or.inl ⟨rfl, by intro w hSw; (try dsimp only at hSw); go_simp; try with_reducible rfl⟩
                                            case s6_u1y2x39 => assumption
                                            try simp only [Act.put, List.setIfInBounds_toArray, List.set_cons_zero, List.set_cons_succ]
                                            with_reducible refine wpAnyH_done ?s1_u1y2x40 ?s2_u1y2x40 _
                                            case s1_u1y2x40 => kernel_rfl
                                            go_wp2_with (fail)
                                            exact ⟨⟨f + 1, _, _, by omega, by go_num, hsc.sub (fun r hr => List.mem_cons_of_mem _ (List.mem_cons_of_mem _ (List.mem_cons_of_mem _ hr))), HP2.out⟩, by simp [intOf]; omega⟩
                                    case b6_u1y2x22 =>
                                      intro K hK
                                      go_simp
                                      replace hsc := hsc.new P Q
                                      with_reducible refine hK.out _ _ ?s1_u1y2x41 (fun hHeld => ?s2_u1y2x41)
                                      case s1_u1y2x41 => exact hsc.cells (n := 1) (c := 1) (by simp)
                                      clear hK K
                                      try simp only [Act.put, List.setIfInBounds_toArray, List.set_cons_zero, List.set_cons_succ]
                                      with_reducible refine wpAnyH_ready (rs := [2]) ?s1_u1y2x42 (List.cons_ne_nil _ _) ?s2_u1y2x42
                                      case s1_u1y2x42 => kernel_rfl
                                      with_reducible refine AllReadyH.cons (o := ?b0_u1y2x42) (by simp only [List.getElem?_toArray, List.getElem?_cons_succ, List.getElem?_cons_zero]; exact rfl) ?b5_u1y2x42 AllReadyH.nil
                                      case b5_u1y2x42 =>
                                        intro K hK
                                        go_simp
                                        replace hsc := hsc.new_at P Q (World.size_alloc _ _).symm
                                        with_reducible refine hK.out _ _ ?s1_u1y2x43 (fun hHeld => ?s2_u1y2x43)
                                        case s1_u1y2x43 => exact hsc.cells (n := 1) (c := 1) (by simp)
                                        clear hK K
                                        try simp only [Act.put, List.setIfInBounds_toArray, List.set_cons_zero, List.set_cons_succ]
                                        with_reducible refine wpAnyH_ready (rs := [3]) ?s1_u1y2x44 (List.cons_ne_nil _ _) ?s2_u1y2x44
                                        case s1_u1y2x44 => kernel_rfl
                                        with_reducible refine AllReadyH.cons (o := ?b0_u1y2x44) (by simp only [List.getElem?_toArray, List.getElem?_cons_succ, List.getElem?_cons_zero]; exact rfl) ?b5_u1y2x44 AllReadyH.nil
                                        case b5_u1y2x44 =>
                                          intro K hK
                                          refine step_appSpot rfl (.tmp 110) (.tmp 112) rfl _ w5.heap.size _ seen rfl hsc.drew.oa _ [(P, Q)] rfl hsc.drew.rd0 (by simp; omega) hsc.hB.size ?_
                                          intro v6 w6 o6 hg6 hn6
                                          replace hsc := hsc.drew.appA o6 hg6 hn6
                                          clear o6 hg6 hn6
                                          with_reducible refine hK.out _ _ ?s1_u1y2x45 (fun hHeld => ?s2_u1y2x45)
                                          case s1_u1y2x45 => exact hsc.cells (n := 1) (c := 1) (by simp)
                                          clear hK K
                                          try simp only [Act.put, List.setIfInBounds_toArray, List.set_cons_zero, List.set_cons_succ]
                                          with_reducible refine wpAnyH_ready (rs := [7]) ?s1_u1y2x46 (List.cons_ne_nil _ _) ?s2_u1y2x46
                                          case s1_u1y2x46 => kernel_rfl
                                          with_reducible refine AllReadyH.cons (o := ?b0_u1y2x46) (by simp only [List.getElem?_toArray, List.getElem?_cons_succ, List.getElem?_cons_zero]; exact rfl) ?b5_u1y2x46 AllReadyH.nil
                                          case b5_u1y2x46 =>
                                            intro K hK
                                            refine step_appSpot rfl (.tmp 114) (.tmp 116) rfl _ w5.heap.size _ next rfl hsc.ob _ [(P, Q)] rfl hsc.rd1 (by simp; omega) hsc.hB.size ?_
                                            intro v7 w7 o7 hg7 hn7
                                            replace hsc := hsc.appB o7 hg7 hn7
                                            clear o7 hg7 hn7
                                            with_reducible refine hK.out _ _ ?s1_u1y2x47 (fun hHeld => ?s2_u1y2x47)
                                            case s1_u1y2x47 => exact hsc.cells (n := 1) (c := 1) (by simp)
                                            clear hK K
                                            try simp only [Act.put, List.setIfInBounds_toArray, List.set_cons_zero, List.set_cons_succ]
                                            with_reducible refine takeI2 (i := 8) (v := ?sv_u1y2x48) (oi := ?s0_u1y2x48) (by simp only [List.getElem?_toArray, List.getElem?_cons_succ, List.getElem?_cons_zero]; exact rfl) ?s1_u1y2x48 ?s2_u1y2x48 ?s3_u1y2x48 ?s4_u1y2x48 ?s5_u1y2x48 ?s6_u1y2x48 ?s7_u1y2x48
                                            case s1_u1y2x48 => kernel_rfl
                                            case s2_u1y2x48 => kernel_rfl
                                            case s3_u1y2x48 => kernel_rfl
                                            case s4_u1y2x48 => exact fun _ _ _ h => h
                                            case s5_u1y2x48 => exact Or.inl ⟨rfl, by intro w hSw; (try dsimp only at hSw); go_simp; try with_reducible rfl⟩
                                            case s6_u1y2x48 => assumption
                                            try simp only [Act.put, List.setIfInBounds_toArray, List.set_cons_zero, List.set_cons_succ]
                                            with_reducible refine takeI2 (i := 9) (v := ?sv_u1y2x49) (oi := ?s0_u1y2x49) (by simp only [List.getElem?_toArray, List.getElem?_cons_succ, List.getElem?_cons_zero]; exact rfl) ?s1_u1y2x49 ?s2_u1y2x49 ?s3_u1y2x49 ?s4_u1y2x49 ?s5_u1y2x49 ?s6_u1y2x49 ?s7_u1y2x49
                                            case s1_u1y2x49 => kernel_rfl
                                            case s2_u1y2x49 => kernel_rfl
                                            case s3_u1y2x49 => kernel_rfl
                                            case s4_u1y2x49 => exact fun _ _ _ h => h
                                            case s5_u1y2x49 => exact Or.inl ⟨rfl, by intro w hSw; (try dsimp only at hSw); go_simp; try with_reducible rfl⟩
                                            case s6_u1y2x49 => assumption
                                            try simp only [Act.put, List.setIfInBounds_toArray, List.set_cons_zero, List.set_cons_succ]
                                            with_reducible refine wpAnyH_done ?s1_u1y2x50 ?s2_u1y2x50 _
                                            case s1_u1y2x50 => kernel_rfl
                                            go_wp2_with (fail)
                                            exact ⟨⟨f + 1, _, _, by omega, by go_num, hsc.sub (fun r hr => List.mem_cons_of_mem _ (List.mem_cons_of_mem _ (List.mem_cons_of_mem _ hr))), HP2.out⟩, by simp [intOf]; omega⟩
                                  · have hm : (P, Q) ∈ seen := Classical.byContradiction fun h => hz0 (hzF.2 h)
                                    have HK2 : Hid (Scan wd ht (freeS wd ht zs kn) (s0, sy) (t0, t1) c now j (3 * d + (f + 1)) seen next) := HSC.out.skip HX.out (fun hfr => by rw [HNB.out]; exact hm)
                                    clear HSC
                                    clear hzF hz hm
                                    go_wp2_with (fail)
                                    exact ⟨⟨f + 1, seen, next, by omega, by go_num, hsc.sub (fun r hr => List.mem_cons_of_mem _ hr), HK2.out⟩, by simp [intOf]; omega⟩
                                · have hm : isO zs kn zs.length (P, Q) := Classical.byContradiction fun h => hy0 (hyF.2 h)
                                  have HK2 : Hid (Scan wd ht (freeS wd ht zs kn) (s0, sy) (t0, t1) c now j (3 * d + (f + 1)) seen next) := HSC.out.skip HX.out (fun hfr => absurd hm (by rw [HNB.out] at hfr; exact hfr.2))
                                  clear HSC
                                  clear hyF hy hm
                                  go_wp2_with (fail)
                                  exact ⟨⟨f + 1, seen, next, by omega, by go_num, hsc.sub (fun r hr => List.mem_cons_of_mem _ hr), HK2.out⟩, by simp [intOf]; omega⟩
                            · obtain rfl : f = 3 := by omega
                              go_wp2_with (fail)
                              exact ⟨⟨d + 1, seen, next, by omega, by go_num, hsc, by rw [show 3 * (d + 1) = 3 * d + 3 by omega]; exact HSC.out⟩, by simp [intOf]; omega⟩
                        · obtain rfl : d = 3 := by omega
                          have HN2 : Hid (Scan wd ht (freeS wd ht zs kn) (s0, sy) (t0, t1) c now (j + 1) 0 seen next) := HSC.out.step HX.out HXT.out
                          clear HSC
                          go_wp2_with (fail)
                          exact ⟨⟨j + 1, seen, next, by omega, by go_num, hsc.sub (fun r hr => List.mem_cons_of_mem _ hr), HN2.out⟩, by simp [intOf]; omega⟩
                  · have HL2 : Hid (Lay wd ht (freeS wd ht zs kn) (s0, sy) (t0, t1) (c + 1) seen next) := by
                      obtain rfl : j = now.length := by omega
                      exact HSC.out.layer (Nat.le_refl _)
                    have hc145 : c + 1 ≤ 144 := by
                      have := grid_144 hwb hhb HL2.out.nodup HL2.out.grid
                      have := HL2.out.cnt.1
                      omega
                    clear HSC
                    go_wp2_with (fail)
                    exact ⟨⟨c + 1, seen, next, by go_num, hsc.main, HL2.out⟩, by simp [intOf]; omega⟩
            
        case b6_u60 =>
          intro K hK
          go_simp
          skip
          with_reducible refine hK.out _ _ ?s1_u67 (fun hHeld => ?s2_u67)
          case s1_u67 => first | exact ⟨c0, c1⟩ | exact ⟨cell_on (below_alloc1 _ _).drew c0, cell_on (below_alloc1 _ _).drew c1⟩ | exact ⟨cell_on (below_alloc2 _ _ _).drew c0, cell_on (below_alloc2 _ _ _).drew c1⟩
          clear hK K
          try simp only [Act.put, List.setIfInBounds_toArray, List.set_cons_zero, List.set_cons_succ]
          with_reducible refine wpAnyH_ready (rs := [4]) ?s1_u68 (List.cons_ne_nil _ _) ?s2_u68
          case s1_u68 => kernel_rfl
          with_reducible refine AllReadyH.cons (o := ?b0_u68) (by simp only [List.getElem?_toArray, List.getElem?_cons_succ, List.getElem?_cons_zero]; exact rfl) ?b5_u68 AllReadyH.nil
          case b5_u68 =>
            intro K hK
            go_simp
            skip
            with_reducible refine hK.out _ _ ?s1_u69 (fun hHeld => ?s2_u69)
            case s1_u69 => first | exact ⟨c0, c1⟩ | exact ⟨cell_on (below_alloc1 _ _).drew c0, cell_on (below_alloc1 _ _).drew c1⟩ | exact ⟨cell_on (below_alloc2 _ _ _).drew c0, cell_on (below_alloc2 _ _ _).drew c1⟩
            clear hK K
            try simp only [Act.put, List.setIfInBounds_toArray, List.set_cons_zero, List.set_cons_succ]
            with_reducible refine takeI2 (i := 10) (v := ?sv_u70) (oi := ?s0_u70) (by simp only [List.getElem?_toArray, List.getElem?_cons_succ, List.getElem?_cons_zero]; exact rfl) ?s1_u70 ?s2_u70 ?s3_u70 ?s4_u70 ?s5_u70 ?s6_u70 ?s7_u70
            case s1_u70 => kernel_rfl
            case s2_u70 => kernel_rfl
            case s3_u70 => kernel_rfl
            case s4_u70 => exact fun _ _ _ h => h
            case s5_u70 => exact Or.inl ⟨rfl, by intro w hSw; (try dsimp only at hSw); go_simp; try with_reducible rfl⟩
            case s6_u70 => assumption
            try simp only [Act.put, List.setIfInBounds_toArray, List.set_cons_zero, List.set_cons_succ]
            with_reducible refine takeI2 (i := 11) (v := ?sv_u71) (oi := ?s0_u71) (by simp only [List.getElem?_toArray, List.getElem?_cons_succ, List.getElem?_cons_zero]; exact rfl) ?s1_u71 ?s2_u71 ?s3_u71 ?s4_u71 ?s5_u71 ?s6_u71 ?s7_u71
            case s1_u71 => kernel_rfl
            case s2_u71 => kernel_rfl
            case s3_u71 => kernel_rfl
            case s4_u71 => exact fun _ _ _ h => h
            case s5_u71 => exact Or.inl ⟨rfl, by intro w hSw; (try dsimp only at hSw); go_simp; try with_reducible rfl⟩
            case s6_u71 => assumption
            try simp only [Act.put, List.setIfInBounds_toArray, List.set_cons_zero, List.set_cons_succ]
            with_reducible refine wpAnyH_done ?s1_u72 ?s2_u72 _
            case s1_u72 => kernel_rfl
            have hM0 := Mn.start w5 s0 sy (g := (w5.heap.size + 1)) (g' := w5.heap.size) (.inr ⟨rfl, rfl⟩)
            go_wp2_with (fail)
            go_loopw [12, 13, 14] (fun a b i wr => ∃ (c : Nat) (seen now : List Sp), i = .int .i64 c ∧ Mn w5 wr a b seen now ∧ Hid (Lay wd ht (freeS wd ht zs kn) (s0, sy) (t0, t1) c seen now)) (fun _ _ i _ => 146 - (intOf i).toNat)
            case atStart => exact ⟨0, _, _, rfl, hM0.drew, Lay.start hg⟩
            case round =>
             focus
              clear hM0
              obtain ⟨c, seen0, now, rfl, hM, HL⟩ := hrel
              have hcl := HL.out.cnt.1
              have hl144 : seen0.length ≤ 144 := grid_144 hwb hhb HL.out.nodup HL.out.grid
              by_cases hne : now = []
              · subst hne
                have HN := Lib.hid (HW.out _ HL.out.none)
                obtain ⟨A, cap, rfl, _⟩ := hM.on.form
                have HB2 := Lib.hid (bvia hb hM.hB)
                clear hM HL
                go_wp2_with (fail)
                go_ret
                exact ⟨ret_int HN.out.symm, HB2.out⟩
              · have hp : 0 < now.length := List.length_pos_iff.2 hne
                obtain ⟨gn, cn, rfl, _, _, hcn, hmn⟩ := hM.on.full hp
                have hsc := hM.scan
                have HSC := Lib.hid (HL.out.scan hne)
                have HA := Lib.hid hsc
                clear hM HL hsc hne
                go_wp2_with (fail)
                go_loopw [12, 15, 69] (fun a b i wr => ∃ (j : Nat) (seen next : List Sp), j ≤ now.length ∧ i = .int .i64 j ∧ Sc w5 wr a b seen next [(.slice (some ⟨gn, 0, none⟩) now.length cn, now)] ∧ Hid (Scan wd ht (freeS wd ht zs kn) (s0, sy) (t0, t1) c now j 0 seen next)) (fun _ _ i _ => now.length - (intOf i).toNat)
                case atStart => exact ⟨0, seen0, [], Nat.zero_le _, rfl, HA.out, HSC.out⟩
                case round =>
                 focus
                  have hsc := HA.out
                  clear HA
                  clear hsc HSC
                  obtain ⟨j, seen, next, hj, rfl, hsc, HSC⟩ := hrel
                  by_cases hlt : j < now.length
                  · obtain ⟨⟨x0, x1⟩, hx⟩ : ∃ x, now[j]? = some x := ⟨_, List.getElem?_eq_getElem hlt⟩
                    have hgx : spotB wd ht (x0, x1) = true := HSC.out.grid _ ((HSC.out.sn _).2 (.inl ((HSC.out.nw _).1 (List.mem_of_getElem? hx)).1))
                    obtain ⟨⟨a0, a1⟩, a2, a3⟩ := spotB_iff.1 hgx
                    dsimp only at a0 a1 a2 a3
                    obtain ⟨c0, c1⟩ := rdSpot_cell hsc.rd0 hx
                    have m0 := cell_on hsc.hB n0
                    have m1 := cell_on hsc.hB n1
                    have HX := Lib.hid hx
                    have hsn := hsc.new x0 x1
                    have m0' := cell_on (below_alloc1 wr (.cells #[.int .i64 x0, .int .i64 x1] 50)) m0
                    have m1' := cell_on (below_alloc1 wr (.cells #[.int .i64 x0, .int .i64 x1] 50)) m1
                    have HA := Lib.hid hsn
                    clear hx hgx m0 m1 hsn
                    by_cases e0 : x0 = t0
                    · by_cases e1 : x1 = t1
                      · have HIT := Lib.hid (HW.out _ (HSC.out.hit (by rw [HX.out, e0, e1])))
                        have HB2 := Lib.hid (bvia hb HA.out.hB)
                        clear hsc HSC HA
                        subst e0
                        subst e1
                        go_wp2_with (fail)
                        go_ret
                        exact ⟨ret_int HIT.out.symm, HB2.out⟩
                      · have e1b : (x1 == t1) = false := beq_eq_false_iff_ne.2 e1
                        have e0b : (x0 == t0) = true := beq_iff_eq.2 e0
                        have HXT : Hid ((x0, x1) ≠ (t0, t1)) := fun h => e1 (by cases h; rfl)
                        clear hsc e0 e1
                        go_wp2_with (fail)
                        have hsc := HA.out
                        clear m0' m1' c0 c1 HA
                        generalize wr.alloc (.cells #[.int .i64 x0, .int .i64 x1] 50) = wq at hsc ⊢
                        generalize wr.heap.size = gs at hsc ⊢
                        go_loopw [12, 15, 18] (fun a b i wr => ∃ (d : Nat) (seen next : List Sp), d ≤ 3 ∧ i = .int .i64 ((d : Int) - 1) ∧ Sc w5 wr a b seen next [(.slice (some ⟨gs, 0, none⟩) 1 1, [(x0, x1)]), (.slice (some ⟨gn, 0, none⟩) now.length cn, now)] ∧ Hid (Scan wd ht (freeS wd ht zs kn) (s0, sy) (t0, t1) c now j (3 * d) seen next)) (fun _ _ i _ => (2 - intOf i).toNat)
                        case atStart => exact ⟨0, seen, next, by omega, rfl, hsc, HSC.out⟩
                        case round =>
                         focus
                          clear hsc HSC
                          obtain ⟨d, seen, next, hd, rfl, hsc, HSC⟩ := hrel
                          by_cases hd3 : d < 3
                          · have hdd : (d : Int) - 1 ≤ 1 := by omega
                            go_wp2_with (fail)
                            go_loopw [12, 15, 19] (fun a b i wr => ∃ (f : Nat) (seen next : List Sp), f ≤ 3 ∧ i = .int .i64 ((f : Int) - 1) ∧ Sc w5 wr a b seen next [(.slice (some ⟨gs, 0, none⟩) 1 1, [(x0, x1)]), (.slice (some ⟨gn, 0, none⟩) now.length cn, now)] ∧ Hid (Scan wd ht (freeS wd ht zs kn) (s0, sy) (t0, t1) c now j (3 * d + f) seen next)) (fun _ _ i _ => (2 - intOf i).toNat)
                            case atStart => exact ⟨0, seen, next, by omega, rfl, hsc, HSC.out⟩
                            case round =>
                             focus
                              clear hsc HSC
                              obtain ⟨f, seen, next, hf, rfl, hsc, HSC⟩ := hrel
                              by_cases hf3 : f < 3
                              · have hff : (f : Int) - 1 ≤ 1 := by omega
                                have hsl : seen.length ≤ 144 ∧ next.length ≤ 144 := by
                                  have := grid_144 hwb hhb HSC.out.nodup HSC.out.grid
                                  have := HSC.out.cnt
                                  omega
                                obtain ⟨hsl1, hsl2⟩ := hsl
                                obtain ⟨m0, m1⟩ := rdSpot_cell (i := 0) hsc.rd0 rfl
                                rw [Nat.zero_mul] at m0 m1
                                have HXC := Lib.hid (And.intro m0 m1)
                                clear m0 m1
                                obtain ⟨P, hP⟩ : ∃ P, x0 + ((d : Int) - 1) = P := ⟨_, rfl⟩
                                obtain ⟨Q, hQ⟩ : ∃ Q, x1 + ((f : Int) - 1) = Q := ⟨_, rfl⟩
                                have hnb : nbI (x0, x1) (3 * d + f) = (P, Q) := by
                                  unfold nbI
                                  rw [show (3 * d + f) / 3 = d by omega, show (3 * d + f) % 3 = f by omega, ← hP, ← hQ]
                                  exact Prod.ext (by dsimp only; omega) (by dsimp only; omega)
                                have HNB := Lib.hid hnb
                                have wP : IntKind.i64.wrap (x0 + ((d : Int) - 1)) = P := by rw [hP]; exact IntWalk.i64_in _ (by omega)
                                have wQ : IntKind.i64.wrap (x1 + ((f : Int) - 1)) = Q := by rw [hQ]; exact IntWalk.i64_in _ (by omega)
                                have HIS := Lib.hid (fun u => isSpot_any wd ht P Q hwb hhb u)
                                obtain ⟨y0, y1⟩ := HXC.out
                                have HA := Lib.hid (hsc.new P Q)
                                clear hnb hP hQ hsc HXC
                                go_wp2_with (fail)
                                generalize wr.alloc (.cells #[.int .i64 P, .int .i64 Q] 50) = wt at HA ⊢
                                generalize wr.heap.size = gt at HA ⊢
                                have hsc := HA.out
                                clear HA y0 y1
                                obtain ⟨m0, m1⟩ := hsc.cells (g := gt) (p := P) (q := Q) (n := 1) (c := 1) (by simp)
                                cases h5 : spotB wd ht (P, Q) with
                                | false =>
                                  rw [h5] at HIS
                                  have HK2 : Hid (Scan wd ht (freeS wd ht zs kn) (s0, sy) (t0, t1) c now j (3 * d + (f + 1)) seen next) := HSC.out.skip HX.out (fun hfr => absurd hfr.1 (by rw [HNB.out, h5]; simp))
                                  clear HSC
                                  refine (HIS.out _).mono ?_
                                  rintro e w6 ⟨rfl, hb6⟩
                                  replace hsc := hsc.below hb6
                                  clear m0 m1
                                  obtain ⟨m0, m1⟩ := hsc.cells (g := gt) (p := P) (q := Q) (n := 1) (c := 1) (by simp)
                                  clear hb6
                                  clear m0 m1 HIS
                                  go_wp2_with (fail)
                                  exact ⟨⟨f + 1, seen, next, by omega, by go_num, hsc.sub (fun r hr => List.mem_cons_of_mem _ hr), HK2.out⟩, by simp [intOf]; omega⟩
                                | true =>
                                  rw [h5] at HIS
                                  refine (HIS.out _).mono ?_
                                  rintro e w6 ⟨rfl, hb6⟩
                                  replace hsc := hsc.below hb6
                                  clear m0 m1
                                  obtain ⟨m0, m1⟩ := hsc.cells (g := gt) (p := P) (q := Q) (n := 1) (c := 1) (by simp)
                                  clear hb6
                                  clear HIS
                                  go_wp2_with (fail)
                                  refine (spotOf_any (zs.take kn ++ zs.drop k1) P Q _ _ (hro.below hsc.hB)).mono ?_
                                  rintro e w6 ⟨rfl, hb6⟩
                                  replace hsc := hsc.below hb6
                                  clear m0 m1
                                  obtain ⟨m0, m1⟩ := hsc.cells (g := gt) (p := P) (q := Q) (n := 1) (c := 1) (by simp)
                                  clear hb6
                                  obtain ⟨y, hy⟩ : ∃ y, spotOfF (P, Q) (zs.take kn ++ zs.drop k1) 0 = y := ⟨_, rfl⟩
                                  have hyF : y < 0 ↔ ¬ isO zs kn zs.length (P, Q) := by
                                    rw [← hy, ← others_iff, ← HK1.out, ← hasSpot_mem, ← spotOfF_ge (P, Q) _ 0 (Int.le_refl _), Int.not_le]
                                  rw [hy]
                                  by_cases hy0 : y < 0
                                  · have hO := hyF.1 hy0
                                    have HO := Lib.hid hO
                                    clear hyF hy hO
                                    go_wp2_with (fail)
                                    refine (spotOf_any seen P Q _ _ hsc.oa.rd).mono ?_
                                    rintro e w6 ⟨rfl, hb6⟩
                                    replace hsc := hsc.below hb6
                                    clear m0 m1
                                    obtain ⟨m0, m1⟩ := hsc.cells (g := gt) (p := P) (q := Q) (n := 1) (c := 1) (by simp)
                                    clear hb6
                                    obtain ⟨z, hz⟩ : ∃ z, spotOfF (P, Q) seen 0 = z := ⟨_, rfl⟩
                                    have hzF : z < 0 ↔ (P, Q) ∉ seen := by
                                      rw [← hz, ← hasSpot_mem, ← spotOfF_ge (P, Q) _ 0 (Int.le_refl _), Int.not_le]
                                    rw [hz]
                                    by_cases hz0 : z < 0
                                    · have HP2 : Hid (Scan wd ht (freeS wd ht zs kn) (s0, sy) (t0, t1) c now j (3 * d + (f + 1)) (seen ++ [(P, Q)]) (next ++ [(P, Q)])) := by
                                        have h := HSC.out.push HX.out (by rw [HNB.out]; exact h5) (by rw [HNB.out]; exact ⟨h5, HO.out⟩) (by rw [HNB.out]; exact hzF.1 hz0)
                                        rw [HNB.out] at h
                                        exact h
                                      clear hzF hz HSC
                                      go_wp2_with (fail)
                                      with_reducible refine region_beg (n := 10) (S := (fun w' => w'.cell? ⟨gt, 0, none⟩ = some (.int .i64 P) ∧ w'.cell? ⟨gt, 1, none⟩ = some (.int .i64 Q))) ?b1_u2y1x17 ?b2_u2y1x17 ?b3_u2y1x17 (fun hHeld => ?b4_u2y1x17)
                                      case b1_u2y1x17 => kernel_rfl
                                      case b2_u2y1x17 => kernel_rfl
                                      case b3_u2y1x17 => exact hsc.cells (n := 1) (c := 1) (by simp)
                                      with_reducible refine takeI2 (i := 0) (v := ?sv_u2y1x18) (oi := ?s0_u2y1x18) (by simp only [List.getElem?_toArray, List.getElem?_cons_succ, List.getElem?_cons_zero]; exact rfl) ?s1_u2y1x18 ?s2_u2y1x18 ?s3_u2y1x18 ?s4_u2y1x18 ?s5_u2y1x18 ?s6_u2y1x18 ?s7_u2y1x18
                                      case s1_u2y1x18 => kernel_rfl
                                      case s2_u2y1x18 => kernel_rfl
                                      case s3_u2y1x18 => kernel_rfl
                                      case s4_u2y1x18 => exact fun _ _ _ h => h
                                      case s5_u2y1x18 => exact Or.inl ⟨rfl, by intro w hSw; (try dsimp only at hSw); go_simp; try with_reducible rfl⟩
                                      case s6_u2y1x18 => assumption
                                      try simp only [Act.put, List.setIfInBounds_toArray, List.set_cons_zero, List.set_cons_succ]
                                      with_reducible refine takeI2 (i := 1) (v := ?sv_u2y1x19) (oi := ?s0_u2y1x19) (by simp only [List.getElem?_toArray, List.getElem?_cons_succ, List.getElem?_cons_zero]; exact rfl) ?s1_u2y1x19 ?s2_u2y1x19 ?s3_u2y1x19 ?s4_u2y1x19 ?s5_u2y1x19 ?s6_u2y1x19 ?s7_u2y1x19
                                      case s1_u2y1x19 => kernel_rfl
                                      case s2_u2y1x19 => kernel_rfl
                                      case s3_u2y1x19 => kernel_rfl
                                      case s4_u2y1x19 => exact fun _ _ _ h => h
                                      case s5_u2y1x19 => exact Or.inl ⟨rfl, by intro w hSw; (try dsimp only at hSw); go_simp; try with_reducible rfl⟩
                                      case s6_u2y1x19 => assumption
                                      try simp only [Act.put, List.setIfInBounds_toArray, List.set_cons_zero, List.set_cons_succ]
                                      with_reducible refine takeI2 (i := 4) (v := ?sv_u2y1x20) (oi := ?s0_u2y1x20) (by simp only [List.getElem?_toArray, List.getElem?_cons_succ, List.getElem?_cons_zero]; exact rfl) ?s1_u2y1x20 ?s2_u2y1x20 ?s3_u2y1x20 ?s4_u2y1x20 ?s5_u2y1x20 ?s6_u2y1x20 ?s7_u2y1x20
                                      case s1_u2y1x20 => kernel_rfl
                                      case s2_u2y1x20 => kernel_rfl
                                      case s3_u2y1x20 => kernel_rfl
                                      case s4_u2y1x20 => exact fun _ _ _ h => h
                                      case s5_u2y1x20 => exact Or.inl ⟨rfl, by intro w hSw; (try dsimp only at hSw); go_simp; try with_reducible rfl⟩
                                      case s6_u2y1x20 => assumption
                                      try simp only [Act.put, List.setIfInBounds_toArray, List.set_cons_zero, List.set_cons_succ]
                                      with_reducible refine takeI2 (i := 5) (v := ?sv_u2y1x21) (oi := ?s0_u2y1x21) (by simp only [List.getElem?_toArray, List.getElem?_cons_succ, List.getElem?_cons_zero]; exact rfl) ?s1_u2y1x21 ?s2_u2y1x21 ?s3_u2y1x21 ?s4_u2y1x21 ?s5_u2y1x21 ?s6_u2y1x21 ?s7_u2y1x21
                                      case s1_u2y1x21 => kernel_rfl
                                      case s2_u2y1x21 => kernel_rfl
                                      case s3_u2y1x21 => kernel_rfl
                                      case s4_u2y1x21 => exact fun _ _ _ h => h
                                      case s5_u2y1x21 => exact Or.inl ⟨rfl, by intro w hSw; (try dsimp only at hSw); go_simp; try with_reducible rfl⟩
                                      case s6_u2y1x21 => assumption
                                      try simp only [Act.put, List.setIfInBounds_toArray, List.set_cons_zero, List.set_cons_succ]
                                      with_reducible refine wpAnyH_ready (rs := [2, 6]) ?s1_u2y1x22 (List.cons_ne_nil _ _) ?s2_u2y1x22
                                      case s1_u2y1x22 => kernel_rfl
                                      with_reducible refine AllReadyH.cons (o := ?b0_u2y1x22) (by simp only [List.getElem?_toArray, List.getElem?_cons_succ, List.getElem?_cons_zero]; exact rfl) ?b5_u2y1x22 (AllReadyH.cons (o := ?b1_u2y1x22) (by simp only [List.getElem?_toArray, List.getElem?_cons_succ, List.getElem?_cons_zero]; exact rfl) ?b6_u2y1x22 AllReadyH.nil)
                                      case b5_u2y1x22 =>
                                        intro K hK
                                        go_simp
                                        replace hsc := hsc.new P Q
                                        with_reducible refine hK.out _ _ ?s1_u2y1x23 (fun hHeld => ?s2_u2y1x23)
                                        case s1_u2y1x23 => exact hsc.cells (n := 1) (c := 1) (by simp)
                                        clear hK K
                                        try simp only [Act.put, List.setIfInBounds_toArray, List.set_cons_zero, List.set_cons_succ]
                                        with_reducible refine wpAnyH_ready (rs := [3, 6]) ?s1_u2y1x24 (List.cons_ne_nil _ _) ?s2_u2y1x24
                                        case s1_u2y1x24 => kernel_rfl
                                        with_reducible refine AllReadyH.cons (o := ?b0_u2y1x24) (by simp only [List.getElem?_toArray, List.getElem?_cons_succ, List.getElem?_cons_zero]; exact rfl) ?b5_u2y1x24 (AllReadyH.cons (o := ?b1_u2y1x24) (by simp only [List.getElem?_toArray, List.getElem?_cons_succ, List.getElem?_cons_zero]; exact rfl) ?b6_u2y1x24 AllReadyH.nil)
                                        case b5_u2y1x24 =>
                                          intro K hK
                                          refine step_appSpot rfl (.tmp 110) (.tmp 112) rfl _ w5.heap.size _ seen rfl hsc.drew.oa _ [(P, Q)] rfl hsc.drew.rd0 (by simp; omega) hsc.hB.size ?_
                                          intro v6 w6 o6 hg6 hn6
                                          replace hsc := hsc.drew.appA o6 hg6 hn6
                                          clear o6 hg6 hn6
                                          with_reducible refine hK.out _ _ ?s1_u2y1x25 (fun hHeld => ?s2_u2y1x25)
                                          case s1_u2y1x25 => exact hsc.cells (n := 1) (c := 1) (by simp)
                                          clear hK K
                                          try simp only [Act.put, List.setIfInBounds_toArray, List.set_cons_zero, List.set_cons_succ]
                                          with_reducible refine wpAnyH_ready (rs := [6]) ?s1_u2y1x26 (List.cons_ne_nil _ _) ?s2_u2y1x26
                                          case s1_u2y1x26 => kernel_rfl
                                          with_reducible refine AllReadyH.cons (o := ?b0_u2y1x26) (by simp only [List.getElem?_toArray, List.getElem?_cons_succ, List.getElem?_cons_zero]; exact rfl) ?b5_u2y1x26 AllReadyH.nil
                                          case b5_u2y1x26 =>
                                            intro K hK
                                            go_simp
                                            replace hsc := hsc.new P Q
                                            with_reducible refine hK.out _ _ ?s1_u2y1x27 (fun hHeld => ?s2_u2y1x27)
                                            case s1_u2y1x27 => exact hsc.cells (n := 1) (c := 1) (by simp)
                                            clear hK K
                                            try simp only [Act.put, List.setIfInBounds_toArray, List.set_cons_zero, List.set_cons_succ]
                                            with_reducible refine wpAnyH_ready (rs := [7]) ?s1_u2y1x28 (List.cons_ne_nil _ _) ?s2_u2y1x28
                                            case s1_u2y1x28 => kernel_rfl
                                            with_reducible refine AllReadyH.cons (o := ?b0_u2y1x28) (by simp only [List.getElem?_toArray, List.getElem?_cons_succ, List.getElem?_cons_zero]; exact rfl) ?b5_u2y1x28 AllReadyH.nil
                                            case b5_u2y1x28 =>
                                              intro K hK
                                              refine step_appSpot rfl (.tmp 114) (.tmp 116) rfl _ w5.heap.size _ next rfl hsc.ob _ [(P, Q)] rfl hsc.rd0 (by simp; omega) hsc.hB.size ?_
                                              intro v7 w7 o7 hg7 hn7
                                              replace hsc := hsc.appB o7 hg7 hn7
                                              clear o7 hg7 hn7
                                              with_reducible refine hK.out _ _ ?s1_u2y1x29 (fun hHeld => ?s2_u2y1x29)
                                              case s1_u2y1x29 => exact hsc.cells (n := 1) (c := 1) (by simp)
                                              clear hK K
                                              try simp only [Act.put, List.setIfInBounds_toArray, List.set_cons_zero, List.set_cons_succ]
                                              with_reducible refine takeI2 (i := 8) (v := ?sv_u2y1x30) (oi := ?s0_u2y1x30) (by simp only [List.getElem?_toArray, List.getElem?_cons_succ, List.getElem?_cons_zero]; exact rfl) ?s1_u2y1x30 ?s2_u2y1x30 ?s3_u2y1x30 ?s4_u2y1x30 ?s5_u2y1x30 ?s6_u2y1x30 ?s7_u2y1x30
                                              case s1_u2y1x30 => kernel_rfl
                                              case s2_u2y1x30 => kernel_rfl
                                              case s3_u2y1x30 => kernel_rfl
                                              case s4_u2y1x30 => exact fun _ _ _ h => h
                                              case s5_u2y1x30 => exact Or.inl ⟨rfl, by intro w hSw; (try dsimp only at hSw); go_simp; try with_reducible rfl⟩
                                              case s6_u2y1x30 => assumption
                                              try simp only [Act.put, List.setIfInBounds_toArray, List.set_cons_zero, List.set_cons_succ]
                                              with_reducible refine takeI2 (i := 9) (v := ?sv_u2y1x31) (oi := ?s0_u2y1x31) (by simp only [List.getElem?_toArray, List.getElem?_cons_succ, List.getElem?_cons_zero]; exact rfl) ?s1_u2y1x31 ?s2_u2y1x31 ?s3_u2y1x31 ?s4_u2y1x31 ?s5_u2y1x31 ?s6_u2y1x31 ?s7_u2y1x31
                                              case s1_u2y1x31 => kernel_rfl
                                              case s2_u2y1x31 => kernel_rfl
                                              case s3_u2y1x31 => kernel_rfl
                                              case s4_u2y1x31 => exact fun _ _ _ h => h
                                              case s5_u2y1x31 => exact Or.inl ⟨rfl, by intro w hSw; (try dsimp only at hSw); go_simp; try with_reducible rfl⟩
                                              case s6_u2y1x31 => assumption
                                              try simp only [Act.put, List.setIfInBounds_toArray, List.set_cons_zero, List.set_cons_succ]
                                              with_reducible refine wpAnyH_done ?s1_u2y1x32 ?s2_u2y1x32 _
                                              case s1_u2y1x32 => kernel_rfl
                                              go_wp2_with (fail)
                                              exact ⟨⟨f + 1, _, _, by omega, by go_num, hsc.sub (fun r hr => List.mem_cons_of_mem _ (List.mem_cons_of_mem _ (List.mem_cons_of_mem _ hr))), HP2.out⟩, by simp [intOf]; omega⟩
                                        case b6_u2y1x24 =>
                                          intro K hK
                                          go_simp
                                          replace hsc := hsc.new_at P Q (World.size_alloc _ _).symm
                                          with_reducible refine hK.out _ _ ?s1_u2y1x33 (fun hHeld => ?s2_u2y1x33)
                                          case s1_u2y1x33 => exact hsc.cells (n := 1) (c := 1) (by simp)
                                          clear hK K
                                          try simp only [Act.put, List.setIfInBounds_toArray, List.set_cons_zero, List.set_cons_succ]
                                          with_reducible refine wpAnyH_ready (rs := [3]) ?s1_u2y1x34 (List.cons_ne_nil _ _) ?s2_u2y1x34
                                          case s1_u2y1x34 => kernel_rfl
                                          with_reducible refine AllReadyH.cons (o := ?b0_u2y1x34) (by simp only [List.getElem?_toArray, List.getElem?_cons_succ, List.getElem?_cons_zero]; exact rfl) ?b5_u2y1x34 AllReadyH.nil
                                          case b5_u2y1x34 =>
                                            intro K hK
                                            refine step_appSpot rfl (.tmp 110) (.tmp 112) rfl _ w5.heap.size _ seen rfl hsc.drew.oa _ [(P, Q)] rfl hsc.drew.rd1 (by simp; omega) hsc.hB.size ?_
                                            intro v6 w6 o6 hg6 hn6
                                            replace hsc := hsc.drew.appA o6 hg6 hn6
                                            clear o6 hg6 hn6
                                            with_reducible refine hK.out _ _ ?s1_u2y1x35 (fun hHeld => ?s2_u2y1x35)
                                            case s1_u2y1x35 => exact hsc.cells (n := 1) (c := 1) (by simp)
                                            clear hK K
                                            try simp only [Act.put, List.setIfInBounds_toArray, List.set_cons_zero, List.set_cons_succ]
                                            with_reducible refine wpAnyH_ready (rs := [7]) ?s1_u2y1x36 (List.cons_ne_nil _ _) ?s2_u2y1x36
                                            case s1_u2y1x36 => kernel_rfl
                                            with_reducible refine AllReadyH.cons (o := ?b0_u2y1x36) (by simp only [List.getElem?_toArray, List.getElem?_cons_succ, List.getElem?_cons_zero]; exact rfl) ?b5_u2y1x36 AllReadyH.nil
                                            case b5_u2y1x36 =>
                                              intro K hK
                                              refine step_appSpot rfl (.tmp 114) (.tmp 116) rfl _ w5.heap.size _ next rfl hsc.ob _ [(P, Q)] rfl hsc.rd0 (by simp; omega) hsc.hB.size ?_
                                              intro v7 w7 o7 hg7 hn7
                                              replace hsc := hsc.appB o7 hg7 hn7
                                              clear o7 hg7 hn7
                                              with_reducible refine hK.out _ _ ?s1_u2y1x37 (fun hHeld => ?s2_u2y1x37)
                                              case s1_u2y1x37 => exact hsc.cells (n := 1) (c := 1) (by simp)
                                              clear hK K
                                              try simp only [Act.put, List.setIfInBounds_toArray, List.set_cons_zero, List.set_cons_succ]
                                              with_reducible refine takeI2 (i := 8) (v := ?sv_u2y1x38) (oi := ?s0_u2y1x38) (by simp only [List.getElem?_toArray, List.getElem?_cons_succ, List.getElem?_cons_zero]; exact rfl) ?s1_u2y1x38 ?s2_u2y1x38 ?s3_u2y1x38 ?s4_u2y1x38 ?s5_u2y1x38 ?s6_u2y1x38 ?s7_u2y1x38
                                              case s1_u2y1x38 => kernel_rfl
                                              case s2_u2y1x38 => kernel_rfl
                                              case s3_u2y1x38 => kernel_rfl
                                              case s4_u2y1x38 => exact fun _ _ _ h => h
                                              case s5_u2y1x38 => exact Or.inl ⟨rfl, by intro w hSw; (try dsimp only at hSw); go_simp; try with_reducible rfl⟩
                                              case s6_u2y1x38 => assumption
                                              try simp only [Act.put, List.setIfInBounds_toArray, List.set_cons_zero, List.set_cons_succ]
                                              with_reducible refine takeI2 (i := 9) (v := ?sv_u2y1x39) (oi := ?s0_u2y1x39) (by simp only [List.getElem?_toArray, List.getElem?_cons_succ, List.getElem?_cons_zero]; exact rfl) ?s1_u2y1x39 ?s2_u2y1x39 ?s3_u2y1x39 ?s4_u2y1x39 ?s5_u2y1x39 ?s6_u2y1x39 ?s7_u2y1x39
                                              case s1_u2y1x39 => kernel_rfl
                                              case s2_u2y1x39 => kernel_rfl
                                              case s3_u2y1x39 => kernel_rfl
                                              case s4_u2y1x39 => exact fun _ _ _ h => h
                                              case s5_u2y1x39 => exact Or.inl ⟨rfl, by intro w hSw; (try dsimp only at hSw); go_simp; try with_reducible rfl⟩
                                              case s6_u2y1x39 => assumption
                                              try simp only [Act.put, List.setIfInBounds_toArray, List.set_cons_zero, List.set_cons_succ]
                                              with_reducible refine wpAnyH_done ?s1_u2y1x40 ?s2_u2y1x40 _
                                              case s1_u2y1x40 => kernel_rfl
                                              go_wp2_with (fail)
                                              exact ⟨⟨f + 1, _, _, by omega, by go_num, hsc.sub (fun r hr => List.mem_cons_of_mem _ (List.mem_cons_of_mem _ (List.mem_cons_of_mem _ hr))), HP2.out⟩, by simp [intOf]; omega⟩
                                      case b6_u2y1x22 =>
                                        intro K hK
                                        go_simp
                                        replace hsc := hsc.new P Q
                                        with_reducible refine hK.out _ _ ?s1_u2y1x41 (fun hHeld => ?s2_u2y1x41)
                                        case s1_u2y1x41 => exact hsc.cells (n := 1) (c := 1) (by simp)
                                        clear hK K
                                        try simp only [Act.put, List.setIfInBounds_toArray, List.set_cons_zero, List.set_cons_succ]
                                        with_reducible refine wpAnyH_ready (rs := [2]) ?s1_u2y1x42 (List.cons_ne_nil _ _) ?s2_u2y1x42
                                        case s1_u2y1x42 => kernel_rfl
                                        with_reducible refine AllReadyH.cons (o := ?b0_u2y1x42) (by simp only [List.getElem?_toArray, List.getElem?_cons_succ, List.getElem?_cons_zero]; exact rfl) ?b5_u2y1x42 AllReadyH.nil
                                        case b5_u2y1x42 =>
                                          intro K hK
                                          go_simp
                                          replace hsc := hsc.new_at P Q (World.size_alloc _ _).symm
                                          with_reducible refine hK.out _ _ ?s1_u2y1x43 (fun hHeld => ?s2_u2y1x43)
                                          case s1_u2y1x43 => exact hsc.cells (n := 1) (c := 1) (by simp)
                                          clear hK K
                                          try simp only [Act.put, List.setIfInBounds_toArray, List.set_cons_zero, List.set_cons_succ]
                                          with_reducible refine wpAnyH_ready (rs := [3]) ?s1_u2y1x44 (List.cons_ne_nil _ _) ?s2_u2y1x44
                                          case s1_u2y1x44 => kernel_rfl
                                          with_reducible refine AllReadyH.cons (o := ?b0_u2y1x44) (by simp only [List.getElem?_toArray, List.getElem?_cons_succ, List.getElem?_cons_zero]; exact rfl) ?b5_u2y1x44 AllReadyH.nil
                                          case b5_u2y1x44 =>
                                            intro K hK
                                            refine step_appSpot rfl (.tmp 110) (.tmp 112) rfl _ w5.heap.size _ seen rfl hsc.drew.oa _ [(P, Q)] rfl hsc.drew.rd0 (by simp; omega) hsc.hB.size ?_
                                            intro v6 w6 o6 hg6 hn6
                                            replace hsc := hsc.drew.appA o6 hg6 hn6
                                            clear o6 hg6 hn6
                                            with_reducible refine hK.out _ _ ?s1_u2y1x45 (fun hHeld => ?s2_u2y1x45)
                                            case s1_u2y1x45 => exact hsc.cells (n := 1) (c := 1) (by simp)
                                            clear hK K
                                            try simp only [Act.put, List.setIfInBounds_toArray, List.set_cons_zero, List.set_cons_succ]
                                            with_reducible refine wpAnyH_ready (rs := [7]) ?s1_u2y1x46 (List.cons_ne_nil _ _) ?s2_u2y1x46
                                            case s1_u2y1x46 => kernel_rfl
                                            with_reducible refine AllReadyH.cons (o := ?b0_u2y1x46) (by simp only [List.getElem?_toArray, List.getElem?_cons_succ, List.getElem?_cons_zero]; exact rfl) ?b5_u2y1x46 AllReadyH.nil
                                            case b5_u2y1x46 =>
                                              intro K hK
                                              refine step_appSpot rfl (.tmp 114) (.tmp 116) rfl _ w5.heap.size _ next rfl hsc.ob _ [(P, Q)] rfl hsc.rd1 (by simp; omega) hsc.hB.size ?_
                                              intro v7 w7 o7 hg7 hn7
                                              replace hsc := hsc.appB o7 hg7 hn7
                                              clear o7 hg7 hn7
                                              with_reducible refine hK.out _ _ ?s1_u2y1x47 (fun hHeld => ?s2_u2y1x47)
                                              case s1_u2y1x47 => exact hsc.cells (n := 1) (c := 1) (by simp)
                                              clear hK K
                                              try simp only [Act.put, List.setIfInBounds_toArray, List.set_cons_zero, List.set_cons_succ]
                                              with_reducible refine takeI2 (i := 8) (v := ?sv_u2y1x48) (oi := ?s0_u2y1x48) (by simp only [List.getElem?_toArray, List.getElem?_cons_succ, List.getElem?_cons_zero]; exact rfl) ?s1_u2y1x48 ?s2_u2y1x48 ?s3_u2y1x48 ?s4_u2y1x48 ?s5_u2y1x48 ?s6_u2y1x48 ?s7_u2y1x48
                                              case s1_u2y1x48 => kernel_rfl
                                              case s2_u2y1x48 => kernel_rfl
                                              case s3_u2y1x48 => kernel_rfl
                                              case s4_u2y1x48 => exact fun _ _ _ h => h
                                              case s5_u2y1x48 => exact Or.inl ⟨rfl, by intro w hSw; (try dsimp only at hSw); go_simp; try with_reducible rfl⟩
                                              case s6_u2y1x48 => assumption
                                              try simp only [Act.put, List.setIfInBounds_toArray, List.set_cons_zero, List.set_cons_succ]
                                              with_reducible refine takeI2 (i := 9) (v := ?sv_u2y1x49) (oi := ?s0_u2y1x49) (by simp only [List.getElem?_toArray, List.getElem?_cons_succ, List.getElem?_cons_zero]; exact rfl) ?s1_u2y1x49 ?s2_u2y1x49 ?s3_u2y1x49 ?s4_u2y1x49 ?s5_u2y1x49 ?s6_u2y1x49 ?s7_u2y1x49
                                              case s1_u2y1x49 => kernel_rfl
                                              case s2_u2y1x49 => kernel_rfl
                                              case s3_u2y1x49 => kernel_rfl
                                              case s4_u2y1x49 => exact fun _ _ _ h => h
                                              case s5_u2y1x49 => exact Or.inl ⟨rfl, by intro w hSw; (try dsimp only at hSw); go_simp; try with_reducible rfl⟩
                                              case s6_u2y1x49 => assumption
                                              try simp only [Act.put, List.setIfInBounds_toArray, List.set_cons_zero, List.set_cons_succ]
                                              with_reducible refine wpAnyH_done ?s1_u2y1x50 ?s2_u2y1x50 _
                                              case s1_u2y1x50 => kernel_rfl
                                              go_wp2_with (fail)
                                              exact ⟨⟨f + 1, _, _, by omega, by go_num, hsc.sub (fun r hr => List.mem_cons_of_mem _ (List.mem_cons_of_mem _ (List.mem_cons_of_mem _ hr))), HP2.out⟩, by simp [intOf]; omega⟩
                                    · have hm : (P, Q) ∈ seen := Classical.byContradiction fun h => hz0 (hzF.2 h)
                                      have HK2 : Hid (Scan wd ht (freeS wd ht zs kn) (s0, sy) (t0, t1) c now j (3 * d + (f + 1)) seen next) := HSC.out.skip HX.out (fun hfr => by rw [HNB.out]; exact hm)
                                      clear HSC
                                      clear hzF hz hm
                                      go_wp2_with (fail)
                                      exact ⟨⟨f + 1, seen, next, by omega, by go_num, hsc.sub (fun r hr => List.mem_cons_of_mem _ hr), HK2.out⟩, by simp [intOf]; omega⟩
                                  · have hm : isO zs kn zs.length (P, Q) := Classical.byContradiction fun h => hy0 (hyF.2 h)
                                    have HK2 : Hid (Scan wd ht (freeS wd ht zs kn) (s0, sy) (t0, t1) c now j (3 * d + (f + 1)) seen next) := HSC.out.skip HX.out (fun hfr => absurd hm (by rw [HNB.out] at hfr; exact hfr.2))
                                    clear HSC
                                    clear hyF hy hm
                                    go_wp2_with (fail)
                                    exact ⟨⟨f + 1, seen, next, by omega, by go_num, hsc.sub (fun r hr => List.mem_cons_of_mem _ hr), HK2.out⟩, by simp [intOf]; omega⟩
                              · obtain rfl : f = 3 := by omega
                                go_wp2_with (fail)
                                exact ⟨⟨d + 1, seen, next, by omega, by go_num, hsc, by rw [show 3 * (d + 1) = 3 * d + 3 by omega]; exact HSC.out⟩, by simp [intOf]; omega⟩
                          · obtain rfl : d = 3 := by omega
                            have HN2 : Hid (Scan wd ht (freeS wd ht zs kn) (s0, sy) (t0, t1) c now (j + 1) 0 seen next) := HSC.out.step HX.out HXT.out
                            clear HSC
                            go_wp2_with (fail)
                            exact ⟨⟨j + 1, seen, next, by omega, by go_num, hsc.sub (fun r hr => List.mem_cons_of_mem _ hr), HN2.out⟩, by simp [intOf]; omega⟩
                    · have e0b : (x0 == t0) = false := beq_eq_false_iff_ne.2 e0
                      have HXT : Hid ((x0, x1) ≠ (t0, t1)) := fun h => e0 (by cases h; rfl)
                      clear hsc e0
                      go_wp2_with (fail)
                      have hsc := HA.out
                      clear m0' m1' c0 c1 HA
                      generalize wr.alloc (.cells #[.int .i64 x0, .int .i64 x1] 50) = wq at hsc ⊢
                      generalize wr.heap.size = gs at hsc ⊢
                      go_loopw [12, 15, 18] (fun a b i wr => ∃ (d : Nat) (seen next : List Sp), d ≤ 3 ∧ i = .int .i64 ((d : Int) - 1) ∧ Sc w5 wr a b seen next [(.slice (some ⟨gs, 0, none⟩) 1 1, [(x0, x1)]), (.slice (some ⟨gn, 0, none⟩) now.length cn, now)] ∧ Hid (Scan wd ht (freeS wd ht zs kn) (s0, sy) (t0, t1) c now j (3 * d) seen next)) (fun _ _ i _ => (2 - intOf i).toNat)
                      case atStart => exact ⟨0, seen, next, by omega, rfl, hsc, HSC.out⟩
                      case round =>
                       focus
                        clear hsc HSC
                        obtain ⟨d, seen, next, hd, rfl, hsc, HSC⟩ := hrel
                        by_cases hd3 : d < 3
                        · have hdd : (d : Int) - 1 ≤ 1 := by omega
                          go_wp2_with (fail)
                          go_loopw [12, 15, 19] (fun a b i wr => ∃ (f : Nat) (seen next : List Sp), f ≤ 3 ∧ i = .int .i64 ((f : Int) - 1) ∧ Sc w5 wr a b seen next [(.slice (some ⟨gs, 0, none⟩) 1 1, [(x0, x1)]), (.slice (some ⟨gn, 0, none⟩) now.length cn, now)] ∧ Hid (Scan wd ht (freeS wd ht zs kn) (s0, sy) (t0, t1) c now j (3 * d + f) seen next)) (fun _ _ i _ => (2 - intOf i).toNat)
                          case atStart => exact ⟨0, seen, next, by omega, rfl, hsc, HSC.out⟩
                          case round =>
                           focus
                            clear hsc HSC
                            obtain ⟨f, seen, next, hf, rfl, hsc, HSC⟩ := hrel
                            by_cases hf3 : f < 3
                            · have hff : (f : Int) - 1 ≤ 1 := by omega
                              have hsl : seen.length ≤ 144 ∧ next.length ≤ 144 := by
                                have := grid_144 hwb hhb HSC.out.nodup HSC.out.grid
                                have := HSC.out.cnt
                                omega
                              obtain ⟨hsl1, hsl2⟩ := hsl
                              obtain ⟨m0, m1⟩ := rdSpot_cell (i := 0) hsc.rd0 rfl
                              rw [Nat.zero_mul] at m0 m1
                              have HXC := Lib.hid (And.intro m0 m1)
                              clear m0 m1
                              obtain ⟨P, hP⟩ : ∃ P, x0 + ((d : Int) - 1) = P := ⟨_, rfl⟩
                              obtain ⟨Q, hQ⟩ : ∃ Q, x1 + ((f : Int) - 1) = Q := ⟨_, rfl⟩
                              have hnb : nbI (x0, x1) (3 * d + f) = (P, Q) := by
                                unfold nbI
                                rw [show (3 * d + f) / 3 = d by omega, show (3 * d + f) % 3 = f by omega, ← hP, ← hQ]
                                exact Prod.ext (by dsimp only; omega) (by dsimp only; omega)
                              have HNB := Lib.hid hnb
                              have wP : IntKind.i64.wrap (x0 + ((d : Int) - 1)) = P := by rw [hP]; exact IntWalk.i64_in _ (by omega)
                              have wQ : IntKind.i64.wrap (x1 + ((f : Int) - 1)) = Q := by rw [hQ]; exact IntWalk.i64_in _ (by omega)
                              have HIS := Lib.hid (fun u => isSpot_any wd ht P Q hwb hhb u)
                              obtain ⟨y0, y1⟩ := HXC.out
                              have HA := Lib.hid (hsc.new P Q)
                              clear hnb hP hQ hsc HXC
                              go_wp2_with (fail)
                              generalize wr.alloc (.cells #[.int .i64 P, .int .i64 Q] 50) = wt at HA ⊢
                              generalize wr.heap.size = gt at HA ⊢
                              have hsc := HA.out
                              clear HA y0 y1
                              obtain ⟨m0, m1⟩ := hsc.cells (g := gt) (p := P) (q := Q) (n := 1) (c := 1) (by simp)
                              cases h5 : spotB wd ht (P, Q) with
                              | false =>
                                rw [h5] at HIS
                                have HK2 : Hid (Scan wd ht (freeS wd ht zs kn) (s0, sy) (t0, t1) c now j (3 * d + (f + 1)) seen next) := HSC.out.skip HX.out (fun hfr => absurd hfr.1 (by rw [HNB.out, h5]; simp))
                                clear HSC
                                refine (HIS.out _).mono ?_
                                rintro e w6 ⟨rfl, hb6⟩
                                replace hsc := hsc.below hb6
                                clear m0 m1
                                obtain ⟨m0, m1⟩ := hsc.cells (g := gt) (p := P) (q := Q) (n := 1) (c := 1) (by simp)
                                clear hb6
                                clear m0 m1 HIS
                                go_wp2_with (fail)
                                exact ⟨⟨f + 1, seen, next, by omega, by go_num, hsc.sub (fun r hr => List.mem_cons_of_mem _ hr), HK2.out⟩, by simp [intOf]; omega⟩
                              | true =>
                                rw [h5] at HIS
                                refine (HIS.out _).mono ?_
                                rintro e w6 ⟨rfl, hb6⟩
                                replace hsc := hsc.below hb6
                                clear m0 m1
                                obtain ⟨m0, m1⟩ := hsc.cells (g := gt) (p := P) (q := Q) (n := 1) (c := 1) (by simp)
                                clear hb6
                                clear HIS
                                go_wp2_with (fail)
                                refine (spotOf_any (zs.take kn ++ zs.drop k1) P Q _ _ (hro.below hsc.hB)).mono ?_
                                rintro e w6 ⟨rfl, hb6⟩
                                replace hsc := hsc.below hb6
                                clear m0 m1
                                obtain ⟨m0, m1⟩ := hsc.cells (g := gt) (p := P) (q := Q) (n := 1) (c := 1) (by simp)
                                clear hb6
                                obtain ⟨y, hy⟩ : ∃ y, spotOfF (P, Q) (zs.take kn ++ zs.drop k1) 0 = y := ⟨_, rfl⟩
                                have hyF : y < 0 ↔ ¬ isO zs kn zs.length (P, Q) := by
                                  rw [← hy, ← others_iff, ← HK1.out, ← hasSpot_mem, ← spotOfF_ge (P, Q) _ 0 (Int.le_refl _), Int.not_le]
                                rw [hy]
                                by_cases hy0 : y < 0
                                · have hO := hyF.1 hy0
                                  have HO := Lib.hid hO
                                  clear hyF hy hO
                                  go_wp2_with (fail)
                                  refine (spotOf_any seen P Q _ _ hsc.oa.rd).mono ?_
                                  rintro e w6 ⟨rfl, hb6⟩
                                  replace hsc := hsc.below hb6
                                  clear m0 m1
                                  obtain ⟨m0, m1⟩ := hsc.cells (g := gt) (p := P) (q := Q) (n := 1) (c := 1) (by simp)
                                  clear hb6
                                  obtain ⟨z, hz⟩ : ∃ z, spotOfF (P, Q) seen 0 = z := ⟨_, rfl⟩
                                  have hzF : z < 0 ↔ (P, Q) ∉ seen := by
                                    rw [← hz, ← hasSpot_mem, ← spotOfF_ge (P, Q) _ 0 (Int.le_refl _), Int.not_le]
                                  rw [hz]
                                  by_cases hz0 : z < 0
                                  · have HP2 : Hid (Scan wd ht (freeS wd ht zs kn) (s0, sy) (t0, t1) c now j (3 * d + (f + 1)) (seen ++ [(P, Q)]) (next ++ [(P, Q)])) := by
                                      have h := HSC.out.push HX.out (by rw [HNB.out]; exact h5) (by rw [HNB.out]; exact ⟨h5, HO.out⟩) (by rw [HNB.out]; exact hzF.1 hz0)
                                      rw [HNB.out] at h
                                      exact h
                                    clear hzF hz HSC
                                    go_wp2_with (fail)
                                    with_reducible refine region_beg (n := 10) (S := (fun w' => w'.cell? ⟨gt, 0, none⟩ = some (.int .i64 P) ∧ w'.cell? ⟨gt, 1, none⟩ = some (.int .i64 Q))) ?b1_u2y2x17 ?b2_u2y2x17 ?b3_u2y2x17 (fun hHeld => ?b4_u2y2x17)
                                    case b1_u2y2x17 => kernel_rfl
                                    case b2_u2y2x17 => kernel_rfl
                                    case b3_u2y2x17 => exact hsc.cells (n := 1) (c := 1) (by simp)
                                    with_reducible refine takeI2 (i := 0) (v := ?sv_u2y2x18) (oi := ?s0_u2y2x18) (by simp only [List.getElem?_toArray, List.getElem?_cons_succ, List.getElem?_cons_zero]; exact rfl) ?s1_u2y2x18 ?s2_u2y2x18 ?s3_u2y2x18 ?s4_u2y2x18 ?s5_u2y2x18 ?s6_u2y2x18 ?s7_u2y2x18
                                    case s1_u2y2x18 => kernel_rfl
                                    case s2_u2y2x18 => kernel_rfl
                                    case s3_u2y2x18 => kernel_rfl
                                    case s4_u2y2x18 => exact fun _ _ _ h => h
                                    case s5_u2y2x18 => exact Or.inl ⟨rfl, by intro w hSw; (try dsimp only at hSw); go_simp; try with_reducible rfl⟩
                                    case s6_u2y2x18 => assumption
                                    try simp only [Act.put, List.setIfInBounds_toArray, List.set_cons_zero, List.set_cons_succ]
                                    with_reducible refine takeI2 (i := 1) (v := ?sv_u2y2x19) (oi := ?s0_u2y2x19) (by simp only [List.getElem?_toArray, List.getElem?_cons_succ, List.getElem?_cons_zero]; exact rfl) ?s1_u2y2x19 ?s2_u2y2x19 ?s3_u2y2x19 ?s4_u2y2x19 ?s5_u2y2x19 ?s6_u2y2x19 ?s7_u2y2x19
                                    case s1_u2y2x19 => kernel_rfl
                                    case s2_u2y2x19 => kernel_rfl
                                    case s3_u2y2x19 => kernel_rfl
                                    case s4_u2y2x19 => exact fun _ _ _ h => h
                                    case s5_u2y2x19 => exact Or.inl ⟨rfl, by intro w hSw; (try dsimp only at hSw); go_simp; try with_reducible rfl⟩
                                    case s6_u2y2x19 => assumption
                                    try simp only [Act.put, List.setIfInBounds_toArray, List.set_cons_zero, List.set_cons_succ]
                                    with_reducible refine takeI2 (i := 4) (v := ?sv_u2y2x20) (oi := ?s0_u2y2x20) (by simp only [List.getElem?_toArray, List.getElem?_cons_succ, List.getElem?_cons_zero]; exact rfl) ?s1_u2y2x20 ?s2_u2y2x20 ?s3_u2y2x20 ?s4_u2y2x20 ?s5_u2y2x20 ?s6_u2y2x20 ?s7_u2y2x20
                                    case s1_u2y2x20 => kernel_rfl
                                    case s2_u2y2x20 => kernel_rfl
                                    case s3_u2y2x20 => kernel_rfl
                                    case s4_u2y2x20 => exact fun _ _ _ h => h
                                    case s5_u2y2x20 => exact Or.inl ⟨rfl, by intro w hSw; (try dsimp only at hSw); go_simp; try with_reducible rfl⟩
                                    case s6_u2y2x20 => assumption
                                    try simp only [Act.put, List.setIfInBounds_toArray, List.set_cons_zero, List.set_cons_succ]
                                    with_reducible refine takeI2 (i := 5) (v := ?sv_u2y2x21) (oi := ?s0_u2y2x21) (by simp only [List.getElem?_toArray, List.getElem?_cons_succ, List.getElem?_cons_zero]; exact rfl) ?s1_u2y2x21 ?s2_u2y2x21 ?s3_u2y2x21 ?s4_u2y2x21 ?s5_u2y2x21 ?s6_u2y2x21 ?s7_u2y2x21
                                    case s1_u2y2x21 => kernel_rfl
                                    case s2_u2y2x21 => kernel_rfl
                                    case s3_u2y2x21 => kernel_rfl
                                    case s4_u2y2x21 => exact fun _ _ _ h => h
                                    case s5_u2y2x21 => exact Or.inl ⟨rfl, by intro w hSw; (try dsimp only at hSw); go_simp; try with_reducible rfl⟩
                                    case s6_u2y2x21 => assumption
                                    try simp only [Act.put, List.setIfInBounds_toArray, List.set_cons_zero, List.set_cons_succ]
                                    with_reducible refine wpAnyH_ready (rs := [2, 6]) ?s1_u2y2x22 (List.cons_ne_nil _ _) ?s2_u2y2x22
                                    case s1_u2y2x22 => kernel_rfl
                                    with_reducible refine AllReadyH.cons (o := ?b0_u2y2x22) (by simp only [List.getElem?_toArray, List.getElem?_cons_succ, List.getElem?_cons_zero]; exact rfl) ?b5_u2y2x22 (AllReadyH.cons (o := ?b1_u2y2x22) (by simp only [List.getElem?_toArray, List.getElem?_cons_succ, List.getElem?_cons_zero]; exact rfl) ?b6_u2y2x22 AllReadyH.nil)
                                    case b5_u2y2x22 =>
                                      intro K hK
                                      go_simp
                                      replace hsc := hsc.new P Q
                                      with_reducible refine hK.out _ _ ?s1_u2y2x23 (fun hHeld => ?s2_u2y2x23)
                                      case s1_u2y2x23 => exact hsc.cells (n := 1) (c := 1) (by simp)
                                      clear hK K
                                      try simp only [Act.put, List.setIfInBounds_toArray, List.set_cons_zero, List.set_cons_succ]
                                      with_reducible refine wpAnyH_ready (rs := [3, 6]) ?s1_u2y2x24 (List.cons_ne_nil _ _) ?s2_u2y2x24
                                      case s1_u2y2x24 => kernel_rfl
                                      with_reducible refine AllReadyH.cons (o := ?b0_u2y2x24) (by simp only [List.getElem?_toArray, List.getElem?_cons_succ, List.getElem?_cons_zero]; exact rfl) ?b5_u2y2x24 (AllReadyH.cons (o := ?b1_u2y2x24) (by simp only [List.getElem?_toArray, List.getElem?_cons_succ, List.getElem?_cons_zero]; exact rfl) ?b6_u2y2x24 AllReadyH.nil)
                                      case b5_u2y2x24 =>
                                        intro K hK
                                        refine step_appSpot rfl (.tmp 110) (.tmp 112) rfl _ w5.heap.size _ seen rfl hsc.drew.oa _ [(P, Q)] rfl hsc.drew.rd0 (by simp; omega) hsc.hB.size ?_
                                        intro v6 w6 o6 hg6 hn6
                                        replace hsc := hsc.drew.appA o6 hg6 hn6
                                        clear o6 hg6 hn6
                                        with_reducible refine hK.out _ _ ?s1_u2y2x25 (fun hHeld => ?s2_u2y2x25)
                                        case s1_u2y2x25 => exact hsc.cells (n := 1) (c := 1) (by simp)
                                        clear hK K
                                        try simp only [Act.put, List.setIfInBounds_toArray, List.set_cons_zero, List.set_cons_succ]
                                        with_reducible refine wpAnyH_ready (rs := [6]) ?s1_u2y2x26 (List.cons_ne_nil _ _) ?s2_u2y2x26
                                        case s1_u2y2x26 => kernel_rfl
                                        with_reducible refine AllReadyH.cons (o := ?b0_u2y2x26) (by simp only [List.getElem?_toArray, List.getElem?_cons_succ, List.getElem?_cons_zero]; exact rfl) ?b5_u2y2x26 AllReadyH.nil
                                        case b5_u2y2x26 =>
                                          intro K hK
                                          go_simp
                                          replace hsc := hsc.new P Q
                                          with_reducible refine hK.out _ _ ?s1_u2y2x27 (fun hHeld => ?s2_u2y2x27)
                                          case s1_u2y2x27 => exact hsc.cells (n := 1) (c := 1) (by simp)
                                          clear hK K
                                          try simp only [Act.put, List.setIfInBounds_toArray, List.set_cons_zero, List.set_cons_succ]
                                          with_reducible refine wpAnyH_ready (rs := [7]) ?s1_u2y2x28 (List.cons_ne_nil _ _) ?s2_u2y2x28
                                          case s1_u2y2x28 => kernel_rfl
                                          with_reducible refine AllReadyH.cons (o := ?b0_u2y2x28) (by simp only [List.getElem?_toArray, List.getElem?_cons_succ, List.getElem?_cons_zero]; exact rfl) ?b5_u2y2x28 AllReadyH.nil
                                          case b5_u2y2x28 =>
                                            intro K hK
                                            refine step_appSpot rfl (.tmp 114) (.tmp 116) rfl _ w5.heap.size _ next rfl hsc.ob _ [(P, Q)] rfl hsc.rd0 (by simp; omega) hsc.hB.size ?_
                                            intro v7 w7 o7 hg7 hn7
                                            replace hsc := hsc.appB o7 hg7 hn7
                                            clear o7 hg7 hn7
                                            with_reducible refine hK.out _ _ ?s1_u2y2x29 (fun hHeld => ?s2_u2y2x29)
                                            case s1_u2y2x29 => exact hsc.cells (n := 1) (c := 1) (by simp)
                                            clear hK K
                                            try simp only [Act.put, List.setIfInBounds_toArray, List.set_cons_zero, List.set_cons_succ]
                                            with_reducible refine takeI2 (i := 8) (v := ?sv_u2y2x30) (oi := ?s0_u2y2x30) (by simp only [List.getElem?_toArray, List.getElem?_cons_succ, List.getElem?_cons_zero]; exact rfl) ?s1_u2y2x30 ?s2_u2y2x30 ?s3_u2y2x30 ?s4_u2y2x30 ?s5_u2y2x30 ?s6_u2y2x30 ?s7_u2y2x30
                                            case s1_u2y2x30 => kernel_rfl
                                            case s2_u2y2x30 => kernel_rfl
                                            case s3_u2y2x30 => kernel_rfl
                                            case s4_u2y2x30 => exact fun _ _ _ h => h
                                            case s5_u2y2x30 => exact Or.inl ⟨rfl, by intro w hSw; (try dsimp only at hSw); go_simp; try with_reducible rfl⟩
                                            case s6_u2y2x30 => assumption
                                            try simp only [Act.put, List.setIfInBounds_toArray, List.set_cons_zero, List.set_cons_succ]
                                            with_reducible refine takeI2 (i := 9) (v := ?sv_u2y2x31) (oi := ?s0_u2y2x31) (by simp only [List.getElem?_toArray, List.getElem?_cons_succ, List.getElem?_cons_zero]; exact rfl) ?s1_u2y2x31 ?s2_u2y2x31 ?s3_u2y2x31 ?s4_u2y2x31 ?s5_u2y2x31 ?s6_u2y2x31 ?s7_u2y2x31
                                            case s1_u2y2x31 => kernel_rfl
                                            case s2_u2y2x31 => kernel_rfl
                                            case s3_u2y2x31 => kernel_rfl
                                            case s4_u2y2x31 => exact fun _ _ _ h => h
                                            case s5_u2y2x31 => exact Or.inl ⟨rfl, by intro w hSw; (try dsimp only at hSw); go_simp; try with_reducible rfl⟩
                                            case s6_u2y2x31 => assumption
                                            try simp only [Act.put, List.setIfInBounds_toArray, List.set_cons_zero, List.set_cons_succ]
                                            with_reducible refine wpAnyH_done ?s1_u2y2x32 ?s2_u2y2x32 _
                                            case s1_u2y2x32 => kernel_rfl
                                            go_wp2_with (fail)
                                            exact ⟨⟨f + 1, _, _, by omega, by go_num, hsc.sub (fun r hr => List.mem_cons_of_mem _ (List.mem_cons_of_mem _ (List.mem_cons_of_mem _ hr))), HP2.out⟩, by simp [intOf]; omega⟩
                                      case b6_u2y2x24 =>
                                        intro K hK
                                        go_simp
                                        replace hsc := hsc.new_at P Q (World.size_alloc _ _).symm
                                        with_reducible refine hK.out _ _ ?s1_u2y2x33 (fun hHeld => ?s2_u2y2x33)
                                        case s1_u2y2x33 => exact hsc.cells (n := 1) (c := 1) (by simp)
                                        clear hK K
                                        try simp only [Act.put, List.setIfInBounds_toArray, List.set_cons_zero, List.set_cons_succ]
                                        with_reducible refine wpAnyH_ready (rs := [3]) ?s1_u2y2x34 (List.cons_ne_nil _ _) ?s2_u2y2x34
                                        case s1_u2y2x34 => kernel_rfl
                                        with_reducible refine AllReadyH.cons (o := ?b0_u2y2x34) (by simp only [List.getElem?_toArray, List.getElem?_cons_succ, List.getElem?_cons_zero]; exact rfl) ?b5_u2y2x34 AllReadyH.nil
                                        case b5_u2y2x34 =>
                                          intro K hK
                                          refine step_appSpot rfl (.tmp 110) (.tmp 112) rfl _ w5.heap.size _ seen rfl hsc.drew.oa _ [(P, Q)] rfl hsc.drew.rd1 (by simp; omega) hsc.hB.size ?_
                                          intro v6 w6 o6 hg6 hn6
                                          replace hsc := hsc.drew.appA o6 hg6 hn6
                                          clear o6 hg6 hn6
                                          with_reducible refine hK.out _ _ ?s1_u2y2x35 (fun hHeld => ?s2_u2y2x35)
                                          case s1_u2y2x35 => exact hsc.cells (n := 1) (c := 1) (by simp)
                                          clear hK K
                                          try simp only [Act.put, List.setIfInBounds_toArray, List.set_cons_zero, List.set_cons_succ]
                                          with_reducible refine wpAnyH_ready (rs := [7]) ?s1_u2y2x36 (List.cons_ne_nil _ _) ?s2_u2y2x36
                                          case s1_u2y2x36 => kernel_rfl
                                          with_reducible refine AllReadyH.cons (o := ?b0_u2y2x36) (by simp only [List.getElem?_toArray, List.getElem?_cons_succ, List.getElem?_cons_zero]; exact rfl) ?b5_u2y2x36 AllReadyH.nil
                                          case b5_u2y2x36 =>
                                            intro K hK
                                            refine step_appSpot rfl (.tmp 114) (.tmp 116) rfl _ w5.heap.size _ next rfl hsc.ob _ [(P, Q)] rfl hsc.rd0 (by simp; omega) hsc.hB.size ?_
                                            intro v7 w7 o7 hg7 hn7
                                            replace hsc := hsc.appB o7 hg7 hn7
                                            clear o7 hg7 hn7
                                            with_reducible refine hK.out _ _ ?s1_u2y2x37 (fun hHeld => ?s2_u2y2x37)
                                            case s1_u2y2x37 => exact hsc.cells (n := 1) (c := 1) (by simp)
                                            clear hK K
                                            try simp only [Act.put, List.setIfInBounds_toArray, List.set_cons_zero, List.set_cons_succ]
                                            with_reducible refine takeI2 (i := 8) (v := ?sv_u2y2x38) (oi := ?s0_u2y2x38) (by simp only [List.getElem?_toArray, List.getElem?_cons_succ, List.getElem?_cons_zero]; exact rfl) ?s1_u2y2x38 ?s2_u2y2x38 ?s3_u2y2x38 ?s4_u2y2x38 ?s5_u2y2x38 ?s6_u2y2x38 ?s7_u2y2x38
                                            case s1_u2y2x38 => kernel_rfl
                                            case s2_u2y2x38 => kernel_rfl
                                            case s3_u2y2x38 => kernel_rfl
                                            case s4_u2y2x38 => exact fun _ _ _ h => h
                                            case s5_u2y2x38 => exact Or.inl ⟨rfl, by intro w hSw; (try dsimp only at hSw); go_simp; try with_reducible rfl⟩
                                            case s6_u2y2x38 => assumption
                                            try simp only [Act.put, List.setIfInBounds_toArray, List.set_cons_zero, List.set_cons_succ]
                                            with_reducible refine takeI2 (i := 9) (v := ?sv_u2y2x39) (oi := ?s0_u2y2x39) (by simp only [List.getElem?_toArray, List.getElem?_cons_succ, List.getElem?_cons_zero]; exact rfl) ?s1_u2y2x39 ?s2_u2y2x39 ?s3_u2y2x39 ?s4_u2y2x39 ?s5_u2y2x39 ?s6_u2y2x39 ?s7_u2y2x39
                                            case s1_u2y2x39 => kernel_rfl
                                            case s2_u2y2x39 => kernel_rfl
                                            case s3_u2y2x39 => kernel_rfl
                                            case s4_u2y2x39 => exact fun _ _ _ h => h
                                            case s5_u2y2x39 => exact Or.inl ⟨rfl, by intro w hSw; (try dsimp only at hSw); go_simp; try with_reducible rfl⟩
                                            case s6_u2y2x39 => assumption
                                            try simp only [Act.put, List.setIfInBounds_toArray, List.set_cons_zero, List.set_cons_succ]
                                            with_reducible refine wpAnyH_done ?s1_u2y2x40 ?s2_u2y2x40 _
                                            case s1_u2y2x40 => kernel_rfl
                                            go_wp2_with (fail)
                                            exact ⟨⟨f + 1, _, _, by omega, by go_num, hsc.sub (fun r hr => List.mem_cons_of_mem _ (List.mem_cons_of_mem _ (List.mem_cons_of_mem _ hr))), HP2.out⟩, by simp [intOf]; omega⟩
                                    case b6_u2y2x22 =>
                                      intro K hK
                                      go_simp
                                      replace hsc := hsc.new P Q
                                      with_reducible refine hK.out _ _ ?s1_u2y2x41 (fun hHeld => ?s2_u2y2x41)
                                      case s1_u2y2x41 => exact hsc.cells (n := 1) (c := 1) (by simp)
                                      clear hK K
                                      try simp only [Act.put, List.setIfInBounds_toArray, List.set_cons_zero, List.set_cons_succ]
                                      with_reducible refine wpAnyH_ready (rs := [2]) ?s1_u2y2x42 (List.cons_ne_nil _ _) ?s2_u2y2x42
                                      case s1_u2y2x42 => kernel_rfl
                                      with_reducible refine AllReadyH.cons (o := ?b0_u2y2x42) (by simp only [List.getElem?_toArray, List.getElem?_cons_succ, List.getElem?_cons_zero]; exact rfl) ?b5_u2y2x42 AllReadyH.nil
                                      case b5_u2y2x42 =>
                                        intro K hK
                                        go_simp
                                        replace hsc := hsc.new_at P Q (World.size_alloc _ _).symm
                                        with_reducible refine hK.out _ _ ?s1_u2y2x43 (fun hHeld => ?s2_u2y2x43)
                                        case s1_u2y2x43 => exact hsc.cells (n := 1) (c := 1) (by simp)
                                        clear hK K
                                        try simp only [Act.put, List.setIfInBounds_toArray, List.set_cons_zero, List.set_cons_succ]
                                        with_reducible refine wpAnyH_ready (rs := [3]) ?s1_u2y2x44 (List.cons_ne_nil _ _) ?s2_u2y2x44
                                        case s1_u2y2x44 => kernel_rfl
                                        with_reducible refine AllReadyH.cons (o := ?b0_u2y2x44) (by simp only [List.getElem?_toArray, List.getElem?_cons_succ, List.getElem?_cons_zero]; exact rfl) ?b5_u2y2x44 AllReadyH.nil
                                        case b5_u2y2x44 =>
                                          intro K hK
                                          refine step_appSpot rfl (.tmp 110) (.tmp 112) rfl _ w5.heap.size _ seen rfl hsc.drew.oa _ [(P, Q)] rfl hsc.drew.rd0 (by simp; omega) hsc.hB.size ?_
                                          intro v6 w6 o6 hg6 hn6
                                          replace hsc := hsc.drew.appA o6 hg6 hn6
                                          clear o6 hg6 hn6
                                          with_reducible refine hK.out _ _ ?s1_u2y2x45 (fun hHeld => ?s2_u2y2x45)
                                          case s1_u2y2x45 => exact hsc.cells (n := 1) (c := 1) (by simp)
                                          clear hK K
                                          try simp only [Act.put, List.setIfInBounds_toArray, List.set_cons_zero, List.set_cons_succ]
                                          with_reducible refine wpAnyH_ready (rs := [7]) ?s1_u2y2x46 (List.cons_ne_nil _ _) ?s2_u2y2x46
                                          case s1_u2y2x46 => kernel_rfl
                                          with_reducible refine AllReadyH.cons (o := ?b0_u2y2x46) (by simp only [List.getElem?_toArray, List.getElem?_cons_succ, List.getElem?_cons_zero]; exact rfl) ?b5_u2y2x46 AllReadyH.nil
                                          case b5_u2y2x46 =>
                                            intro K hK
                                            refine step_appSpot rfl (.tmp 114) (.tmp 116) rfl _ w5.heap.size _ next rfl hsc.ob _ [(P, Q)] rfl hsc.rd1 (by simp; omega) hsc.hB.size ?_
                                            intro v7 w7 o7 hg7 hn7
                                            replace hsc := hsc.appB o7 hg7 hn7
                                            clear o7 hg7 hn7
                                            with_reducible refine hK.out _ _ ?s1_u2y2x47 (fun hHeld => ?s2_u2y2x47)
                                            case s1_u2y2x47 => exact hsc.cells (n := 1) (c := 1) (by simp)
                                            clear hK K
                                            try simp only [Act.put, List.setIfInBounds_toArray, List.set_cons_zero, List.set_cons_succ]
                                            with_reducible refine takeI2 (i := 8) (v := ?sv_u2y2x48) (oi := ?s0_u2y2x48) (by simp only [List.getElem?_toArray, List.getElem?_cons_succ, List.getElem?_cons_zero]; exact rfl) ?s1_u2y2x48 ?s2_u2y2x48 ?s3_u2y2x48 ?s4_u2y2x48 ?s5_u2y2x48 ?s6_u2y2x48 ?s7_u2y2x48
                                            case s1_u2y2x48 => kernel_rfl
                                            case s2_u2y2x48 => kernel_rfl
                                            case s3_u2y2x48 => kernel_rfl
                                            case s4_u2y2x48 => exact fun _ _ _ h => h
                                            case s5_u2y2x48 => exact Or.inl ⟨rfl, by intro w hSw; (try dsimp only at hSw); go_simp; try with_reducible rfl⟩
                                            case s6_u2y2x48 => assumption
                                            try simp only [Act.put, List.setIfInBounds_toArray, List.set_cons_zero, List.set_cons_succ]
                                            with_reducible refine takeI2 (i := 9) (v := ?sv_u2y2x49) (oi := ?s0_u2y2x49) (by simp only [List.getElem?_toArray, List.getElem?_cons_succ, List.getElem?_cons_zero]; exact rfl) ?s1_u2y2x49 ?s2_u2y2x49 ?s3_u2y2x49 ?s4_u2y2x49 ?s5_u2y2x49 ?s6_u2y2x49 ?s7_u2y2x49
                                            case s1_u2y2x49 => kernel_rfl
                                            case s2_u2y2x49 => kernel_rfl
                                            case s3_u2y2x49 => kernel_rfl
                                            case s4_u2y2x49 => exact fun _ _ _ h => h
                                            case s5_u2y2x49 => exact Or.inl ⟨rfl, by intro w hSw; (try dsimp only at hSw); go_simp; try with_reducible rfl⟩
                                            case s6_u2y2x49 => assumption
                                            try simp only [Act.put, List.setIfInBounds_toArray, List.set_cons_zero, List.set_cons_succ]
                                            with_reducible refine wpAnyH_done ?s1_u2y2x50 ?s2_u2y2x50 _
                                            case s1_u2y2x50 => kernel_rfl
                                            go_wp2_with (fail)
                                            exact ⟨⟨f + 1, _, _, by omega, by go_num, hsc.sub (fun r hr => List.mem_cons_of_mem _ (List.mem_cons_of_mem _ (List.mem_cons_of_mem _ hr))), HP2.out⟩, by simp [intOf]; omega⟩
                                  · have hm : (P, Q) ∈ seen := Classical.byContradiction fun h => hz0 (hzF.2 h)
                                    have HK2 : Hid (Scan wd ht (freeS wd ht zs kn) (s0, sy) (t0, t1) c now j (3 * d + (f + 1)) seen next) := HSC.out.skip HX.out (fun hfr => by rw [HNB.out]; exact hm)
                                    clear HSC
                                    clear hzF hz hm
                                    go_wp2_with (fail)
                                    exact ⟨⟨f + 1, seen, next, by omega, by go_num, hsc.sub (fun r hr => List.mem_cons_of_mem _ hr), HK2.out⟩, by simp [intOf]; omega⟩
                                · have hm : isO zs kn zs.length (P, Q) := Classical.byContradiction fun h => hy0 (hyF.2 h)
                                  have HK2 : Hid (Scan wd ht (freeS wd ht zs kn) (s0, sy) (t0, t1) c now j (3 * d + (f + 1)) seen next) := HSC.out.skip HX.out (fun hfr => absurd hm (by rw [HNB.out] at hfr; exact hfr.2))
                                  clear HSC
                                  clear hyF hy hm
                                  go_wp2_with (fail)
                                  exact ⟨⟨f + 1, seen, next, by omega, by go_num, hsc.sub (fun r hr => List.mem_cons_of_mem _ hr), HK2.out⟩, by simp [intOf]; omega⟩
                            · obtain rfl : f = 3 := by omega
                              go_wp2_with (fail)
                              exact ⟨⟨d + 1, seen, next, by omega, by go_num, hsc, by rw [show 3 * (d + 1) = 3 * d + 3 by omega]; exact HSC.out⟩, by simp [intOf]; omega⟩
                        · obtain rfl : d = 3 := by omega
                          have HN2 : Hid (Scan wd ht (freeS wd ht zs kn) (s0, sy) (t0, t1) c now (j + 1) 0 seen next) := HSC.out.step HX.out HXT.out
                          clear HSC
                          go_wp2_with (fail)
                          exact ⟨⟨j + 1, seen, next, by omega, by go_num, hsc.sub (fun r hr => List.mem_cons_of_mem _ hr), HN2.out⟩, by simp [intOf]; omega⟩
                  · have HL2 : Hid (Lay wd ht (freeS wd ht zs kn) (s0, sy) (t0, t1) (c + 1) seen next) := by
                      obtain rfl : j = now.length := by omega
                      exact HSC.out.layer (Nat.le_refl _)
                    have hc145 : c + 1 ≤ 144 := by
                      have := grid_144 hwb hhb HL2.out.nodup HL2.out.grid
                      have := HL2.out.cnt.1
                      omega
                    clear HSC
                    go_wp2_with (fail)
                    exact ⟨⟨c + 1, seen, next, by go_num, hsc.main, HL2.out⟩, by simp [intOf]; omega⟩
            
end Go.Proofs.Ytcpkbohopicabaa
