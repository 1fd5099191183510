/- The walk of the law FnStages. -/
import Derived.Test.YtcpkbohopicabaaStagesP
import Derived.Test.YtcpkbohopicabaaDrawS
import Derived.Test.YtcpkbohopicabaaHas
import Derived.Test.YtcpkbohopicabaaRg2
namespace Go.Proofs.Ytcpkbohopicabaa
open Go.ChangeShapes Go.WideShapes Go.ChangeAt Go.RowKit Go.Joins
set_option linter.unusedSimpArgs false
set_option linter.unusedVariables false

theorem wp_join5 {P : Program} {c : Code} {Q : Exit → Act → World → Prop} {a : Act} {w : World} (A : Act → Int → Int → Int → Int → Nat → Act) (F : Int → Int → Int → Int → Nat → World → Prop)
    (hreg : c.wp P (fun e a' W => ∃ (x y z u : Int) (g : Nat), e = Exit.normal ∧ a' = A a x y z u g ∧ F x y z u g W) a w) (hcont : ∀ x y z u g W, F x y z u g W → Q .normal (A a x y z u g) W) : c.wp P Q a w :=
  Code.wp_mono (fun e a' W h => by
    obtain ⟨x, y, z, u, g, rfl, rfl, h⟩ := h
    exact hcont x y z u g W h) hreg
theorem panic_no5 {A : Int → Int → Int → Int → Nat → Act} {F : Int → Int → Int → Int → Nat → World → Prop} {R : Act → Act} : ∀ c (a : Act) (w : World), (∃ (x y z u : Int) (g : Nat), Exit.panic c = Exit.normal ∧ R a = A x y z u g ∧ F x y z u g w) →
    ∃ (x y z u : Int) (g : Nat), Exit.panic c = Exit.normal ∧ a = A x y z u g ∧ F x y z u g w := by
  rintro c a w ⟨_, _, _, _, _, h, _⟩
  cases h
def LeB (b c : Bool) : Prop := b = true → c = true
def StB (ok : Bool) (y z : Int) (c : Bool) : Prop := ok = true → y = z → c = true
def TkP (zs : List Sp) (kn j : Nat) (t : Sp) (b : Bool) : Prop := b = true ↔ isO zs kn j t
theorem own_oneS (w : World) (B : Nat) (p q : Int) (hB : B ≤ w.heap.size) : OwSpot (w.alloc (.cells #[.int .i64 p, .int .i64 q] 50)) B (.slice (some ⟨w.heap.size, 0, none⟩) 1 1) [(p, q)] :=
  World.ownsRow_lit (base := B) (e := 50) (size := 2) w #[.int .i64 p, .int .i64 q] 1 hB (by rw [maxLen_eq]; omega) rfl
theorem rdSpot_first {w : World} {g n c : Nat} {p q : Int} (h : RdSpot w (.slice (some ⟨g, 0, none⟩) n c) [(p, q)]) : w.cell? ⟨g, 0, none⟩ = some (.int .i64 p) ∧ w.cell? ⟨g, 1, none⟩ = some (.int .i64 q) := by
  have h1 := rdSpot_cell (i := 0) h rfl
  simpa using h1
theorem own_first {w : World} {B g c : Nat} {p q : Int} (h : OwSpot w B (.slice (some ⟨g, 0, none⟩) 1 c) [(p, q)]) (x y : Int) :
    (w.cell? ⟨g, 0, none⟩ = some (.int .i64 p) ∧ w.cell? ⟨g, 1, none⟩ = some (.int .i64 q) ∧ w.frozen? ⟨g, 0, none⟩ = false ∧ w.frozen? ⟨g, 1, none⟩ = false) ∧
    OwSpot ((w.setCell ⟨g, 0, none⟩ (.int .i64 x)).setCell ⟨g, 1, none⟩ (.int .i64 y)) B (.slice (some ⟨g, 0, none⟩) 1 c) [(x, y)] ∧ w.grownBy ((w.setCell ⟨g, 0, none⟩ (.int .i64 x)).setCell ⟨g, 1, none⟩ (.int .i64 y)) (some g) := by
  obtain ⟨h1, h2, h3⟩ := h.cell (i := 0) (by simp)
  have h4 := h.put (i := 0) (by simp) (x, y)
  simp only [Nat.zero_mul, Nat.zero_add, List.set_cons_zero] at h1 h2 h4
  exact ⟨⟨h1, h2, h3 0, h3 1⟩, h4.1, h4.2⟩

set_option maxRecDepth 40000 in
set_option maxHeartbeats 16000000 in
theorem walkFnStages (n : Nat) (v : Value) (w : World) (hr : RdB w w.heap.size v n) : Calls Try.prog 9 #[v] w fun e w' => e = .returned (.bool true) ∧ Below w.heap.size w w' := by
  by_cases hbig : n ≤ 1048576
  · have hbd : decide (1048576 < n) = false := decide_eq_false (by omega)
    have hB := Below.refl w.heap.size w
    go_enter Try.func9, Try.ntmps9
    go_wp2_with (fail)
    refine (big_any n _ _ _ hr).mono ?_
    rintro e w1 ⟨rfl, rfl⟩
    go_wp2_with (fail)
    refine (drawSpots_any n _ _ hr).mono ?_
    rintro e w2 ⟨wd, ht, u, zs, rfl, hz, ho, hb⟩
    replace hr := hr.below hb
    replace hB := bvia hB hb
    clear hb
    obtain ⟨hw, hh, hl7, hG, hN⟩ := spotsB_iff.1 hz
    have HG := Lib.hid hG
    have HZ := Lib.hid hz
    clear hG hN hz
    by_cases hz0 : zs.length = 0
    · obtain rfl : zs = [] := List.eq_nil_of_length_eq_zero hz0
      have hro := ho.rd
      obtain ⟨A, cap, rfl, _⟩ := ho.form
      have HK : Hid (∀ u, Calls Try.prog 39 #[.agg #[.int .i64 1, .int .i64 0], .agg #[.int .i64 0, .int .i64 3]] u fun e w' => e = .returned (.int .i64 3) ∧ Below u.heap.size u w') := fun u => by
        have h := implStepsBetween_any 1 0 0 3 u
        exact h
      clear ho
      go_wp2_with (fail)
      refine (implSpotsOk_any wd ht [] _ _ hro).mono ?_
      rintro e w3 ⟨rfl, hb⟩
      replace hB := bvia hB hb
      clear hb
      rw [HZ.out]
      go_wp2_with (fail)
      refine (HK.out _).mono ?_
      rintro e w4 ⟨rfl, hb⟩
      replace hB := bvia hB hb
      clear hb
      go_wp2_with (fail)
      go_returns
      exact ⟨rfl, hB⟩
    · obtain ⟨gl, cl, rfl, _, _, hcl, hml⟩ := ho.full (by omega)
      have hro := ho.rd
      clear ho
      go_wp2_with (fail)
      refine (at_any n 0 (by omega) (by omega) _ _ _ hr).mono ?_
      rintro e w3 ⟨y, rfl, y0, y1, hd⟩
      have hb := hd.below
      clear hd
      replace hr := hr.below hb
      replace hro := hro.below hb
      replace hB := bvia hB hb
      clear hb
      obtain ⟨kk, hkk⟩ : ∃ kk, y % (zs.length : Int) = kk := ⟨_, rfl⟩
      have hl0 : ¬ (zs.length : Int) = 0 := by omega
      have md1 : y.tmod (zs.length : Int) = kk := by rw [Int.tmod_eq_emod_of_nonneg y0]; exact hkk
      have hkb : 0 ≤ kk ∧ kk < zs.length := by rw [← hkk]; exact ⟨Int.emod_nonneg _ hl0, Int.emod_lt_of_pos _ (by omega)⟩
      obtain ⟨kn, rfl⟩ : ∃ m : Nat, kk = m := ⟨kk.toNat, by omega⟩
      have hkn : kn < zs.length := by omega
      clear hkk
      go_wp2_with (fail)
      clear md1 hl0 y0 y1 hkb
      obtain ⟨⟨s0, s1⟩, hs⟩ : ∃ x, zs[kn]? = some x := ⟨_, List.getElem?_eq_getElem hkn⟩
      have HS := Lib.hid hs
      clear hs
      refine wp_join5 (fun a x y z u g => ((((((((((a.put (some 47) v).put (some 48) (.int .i64 x)).put (some 49) (.int .i64 wd)).put (some 50) (.int .i64 z)).put (some 51) v).put (some 52) (.int .i64 y)).put (some 53) (.int .i64 ht)).put (some 54) (.int .i64 u)).put (some 55) (.agg #[.int .i64 z, .int .i64 u])).put (some 7) (.pointer (some ⟨g, 0, none⟩)))) (fun ya yb px py g W => (0 ≤ px ∧ px ≤ wd - 1) ∧ (0 ≤ py ∧ py ≤ ht - 1) ∧ RdSpot W (.slice (some ⟨g, 0, none⟩) 1 1) [(px, py)] ∧ Below w3.heap.size w3 W) ?hreg ?hcont
      case hreg =>
        have hB3 := (Below.refl w3.heap.size w3).drew
        with_reducible refine region_beg (n := 11) (S := (fun _ => True)) ?b1_u1 ?b2_u1 ?b3_u1 (fun hHeld => ?b4_u1)
        case b1_u1 => kernel_rfl
        case b2_u1 => kernel_rfl
        case b3_u1 => exact trivial
        with_reducible refine takeI2 (i := 0) (v := ?sv_u2) (oi := ?s0_u2) (by simp only [List.getElem?_toArray, List.getElem?_cons_succ, List.getElem?_cons_zero]; exact rfl) ?s1_u2 ?s2_u2 ?s3_u2 ?s4_u2 ?s5_u2 ?s6_u2 ?s7_u2
        case s1_u2 => kernel_rfl
        case s2_u2 => kernel_rfl
        case s3_u2 => kernel_rfl
        case s4_u2 => exact panic_no5
        case s5_u2 => exact Or.inl ⟨rfl, by intro w hSw; (try dsimp only at hSw); go_simp; try with_reducible rfl⟩
        case s6_u2 => assumption
        try simp only [Act.put, List.setIfInBounds_toArray, List.set_cons_zero, List.set_cons_succ]
        with_reducible refine takeI2 (i := 2) (v := ?sv_u3) (oi := ?s0_u3) (by simp only [List.getElem?_toArray, List.getElem?_cons_succ, List.getElem?_cons_zero]; exact rfl) ?s1_u3 ?s2_u3 ?s3_u3 ?s4_u3 ?s5_u3 ?s6_u3 ?s7_u3
        case s1_u3 => kernel_rfl
        case s2_u3 => kernel_rfl
        case s3_u3 => kernel_rfl
        case s4_u3 => exact panic_no5
        case s5_u3 => exact Or.inl ⟨rfl, by intro w hSw; (try dsimp only at hSw); go_simp; try with_reducible rfl⟩
        case s6_u3 => assumption
        try simp only [Act.put, List.setIfInBounds_toArray, List.set_cons_zero, List.set_cons_succ]
        with_reducible refine takeI2 (i := 4) (v := ?sv_u4) (oi := ?s0_u4) (by simp only [List.getElem?_toArray, List.getElem?_cons_succ, List.getElem?_cons_zero]; exact rfl) ?s1_u4 ?s2_u4 ?s3_u4 ?s4_u4 ?s5_u4 ?s6_u4 ?s7_u4
        case s1_u4 => kernel_rfl
        case s2_u4 => kernel_rfl
        case s3_u4 => kernel_rfl
        case s4_u4 => exact panic_no5
        case s5_u4 => exact Or.inl ⟨rfl, by intro w hSw; (try dsimp only at hSw); go_simp; try with_reducible rfl⟩
        case s6_u4 => assumption
        try simp only [Act.put, List.setIfInBounds_toArray, List.set_cons_zero, List.set_cons_succ]
        with_reducible refine takeI2 (i := 6) (v := ?sv_u5) (oi := ?s0_u5) (by simp only [List.getElem?_toArray, List.getElem?_cons_succ, List.getElem?_cons_zero]; exact rfl) ?s1_u5 ?s2_u5 ?s3_u5 ?s4_u5 ?s5_u5 ?s6_u5 ?s7_u5
        case s1_u5 => kernel_rfl
        case s2_u5 => kernel_rfl
        case s3_u5 => kernel_rfl
        case s4_u5 => exact panic_no5
        case s5_u5 => exact Or.inl ⟨rfl, by intro w hSw; (try dsimp only at hSw); go_simp; try with_reducible rfl⟩
        case s6_u5 => assumption
        try simp only [Act.put, List.setIfInBounds_toArray, List.set_cons_zero, List.set_cons_succ]
        with_reducible refine wpAnyH_ready (rs := [1, 9]) ?s1_u6 (List.cons_ne_nil _ _) ?s2_u6
        case s1_u6 => kernel_rfl
        with_reducible refine AllReadyH.cons (o := ?b0_u6) (by simp only [List.getElem?_toArray, List.getElem?_cons_succ, List.getElem?_cons_zero]; exact rfl) ?b5_u6 (AllReadyH.cons (o := ?b1_u6) (by simp only [List.getElem?_toArray, List.getElem?_cons_succ, List.getElem?_cons_zero]; exact rfl) ?b6_u6 AllReadyH.nil)
        case b5_u6 =>
          intro K hK
          go_simp
          refine (at_any n 1 (by omega) (by omega) _ _ _ (hr.below hB3)).mono ?_
          rintro e wa ⟨ya, rfl, ya0, ya1, hd⟩
          have hb := hd.below
          clear hd
          replace hB3 := bvia hB3 hb
          clear hb
          obtain ⟨px, pxe⟩ : ∃ r, ya % wd = r := ⟨_, rfl⟩
          have px0 : ¬ wd = 0 := by omega
          have px1 : ya.tmod wd = px := by rw [Int.tmod_eq_emod_of_nonneg ya0]; exact pxe
          have px2 : 0 ≤ px ∧ px ≤ wd - 1 := by
            rw [← pxe]
            have h1 := Int.emod_nonneg ya px0
            have h2 := Int.emod_lt_of_pos ya (show 0 < wd by omega)
            omega
          have px3 : IntKind.i64.wrap px = px := IntWalk.i64_in _ (by omega)
          clear pxe
          go_wp2_with fail
          with_reducible refine hK.out _ _ ?s1_u7 (fun hHeld => ?s2_u7)
          case s1_u7 => exact trivial
          clear hK K
          try simp only [Act.put, List.setIfInBounds_toArray, List.set_cons_zero, List.set_cons_succ]
          with_reducible refine takeI2 (i := 3) (v := ?sv_u8) (oi := ?s0_u8) (by simp only [List.getElem?_toArray, List.getElem?_cons_succ, List.getElem?_cons_zero]; exact rfl) ?s1_u8 ?s2_u8 ?s3_u8 ?s4_u8 ?s5_u8 ?s6_u8 ?s7_u8
          case s1_u8 => kernel_rfl
          case s2_u8 => kernel_rfl
          case s3_u8 => kernel_rfl
          case s4_u8 => exact panic_no5
          case s5_u8 => exact Or.inl ⟨rfl, by intro w hSw; (try dsimp only at hSw); go_simp; try with_reducible rfl⟩
          case s6_u8 => assumption
          try simp only [Act.put, List.setIfInBounds_toArray, List.set_cons_zero, List.set_cons_succ]
          with_reducible refine wpAnyH_ready (rs := [5, 9]) ?s1_u9 (List.cons_ne_nil _ _) ?s2_u9
          case s1_u9 => kernel_rfl
          with_reducible refine AllReadyH.cons (o := ?b0_u9) (by simp only [List.getElem?_toArray, List.getElem?_cons_succ, List.getElem?_cons_zero]; exact rfl) ?b5_u9 (AllReadyH.cons (o := ?b1_u9) (by simp only [List.getElem?_toArray, List.getElem?_cons_succ, List.getElem?_cons_zero]; exact rfl) ?b6_u9 AllReadyH.nil)
          case b5_u9 =>
            intro K hK
            go_simp
            refine (at_any n 2 (by omega) (by omega) _ _ _ (hr.below hB3)).mono ?_
            rintro e wb ⟨yb, rfl, yb0, yb1, hd⟩
            have hb := hd.below
            clear hd
            replace hB3 := bvia hB3 hb
            clear hb
            obtain ⟨py, pye⟩ : ∃ r, yb % ht = r := ⟨_, rfl⟩
            have py0 : ¬ ht = 0 := by omega
            have py1 : yb.tmod ht = py := by rw [Int.tmod_eq_emod_of_nonneg yb0]; exact pye
            have py2 : 0 ≤ py ∧ py ≤ ht - 1 := by
              rw [← pye]
              have h1 := Int.emod_nonneg yb py0
              have h2 := Int.emod_lt_of_pos yb (show 0 < ht by omega)
              omega
            have py3 : IntKind.i64.wrap py = py := IntWalk.i64_in _ (by omega)
            clear pye
            go_wp2_with fail
            with_reducible refine hK.out _ _ ?s1_u10 (fun hHeld => ?s2_u10)
            case s1_u10 => exact trivial
            clear hK K
            try simp only [Act.put, List.setIfInBounds_toArray, List.set_cons_zero, List.set_cons_succ]
            with_reducible refine takeI2 (i := 7) (v := ?sv_u11) (oi := ?s0_u11) (by simp only [List.getElem?_toArray, List.getElem?_cons_succ, List.getElem?_cons_zero]; exact rfl) ?s1_u11 ?s2_u11 ?s3_u11 ?s4_u11 ?s5_u11 ?s6_u11 ?s7_u11
            case s1_u11 => kernel_rfl
            case s2_u11 => kernel_rfl
            case s3_u11 => kernel_rfl
            case s4_u11 => exact panic_no5
            case s5_u11 => exact Or.inl ⟨rfl, by intro w hSw; (try dsimp only at hSw); go_simp; try with_reducible rfl⟩
            case s6_u11 => assumption
            try simp only [Act.put, List.setIfInBounds_toArray, List.set_cons_zero, List.set_cons_succ]
            with_reducible refine takeI2 (i := 8) (v := ?sv_u12) (oi := ?s0_u12) (by simp only [List.getElem?_toArray, List.getElem?_cons_succ, List.getElem?_cons_zero]; exact rfl) ?s1_u12 ?s2_u12 ?s3_u12 ?s4_u12 ?s5_u12 ?s6_u12 ?s7_u12
            case s1_u12 => kernel_rfl
            case s2_u12 => kernel_rfl
            case s3_u12 => kernel_rfl
            case s4_u12 => exact panic_no5
            case s5_u12 => exact Or.inl ⟨rfl, by intro w hSw; (try dsimp only at hSw); go_simp; try with_reducible rfl⟩
            case s6_u12 => assumption
            try simp only [Act.put, List.setIfInBounds_toArray, List.set_cons_zero, List.set_cons_succ]
            with_reducible refine wpAnyH_ready (rs := [9]) ?s1_u13 (List.cons_ne_nil _ _) ?s2_u13
            case s1_u13 => kernel_rfl
            with_reducible refine AllReadyH.cons (o := ?b0_u13) (by simp only [List.getElem?_toArray, List.getElem?_cons_succ, List.getElem?_cons_zero]; exact rfl) ?b5_u13 AllReadyH.nil
            case b5_u13 =>
              intro K hK
              go_simp
              have hba := (below_alloc1 wb (.cells #[.int .i64 0, .int .i64 0] 50))
              have og := (own_oneS wb wb.heap.size 0 0 (Nat.le_refl _))
              have hgs0 : w3.heap.size ≤ wb.heap.size := hB3.size
              replace hB3 := bvia hB3 hba
              clear hba
              generalize hgq : wb.heap.size = g at og ⊢
              have hgs : w3.heap.size ≤ g := hgq ▸ hgs0
              clear hgq hgs0
              
              with_reducible refine hK.out _ _ ?s1_u14 (fun hHeld => ?s2_u14)
              case s1_u14 => exact trivial
              clear hK K
              try simp only [Act.put, List.setIfInBounds_toArray, List.set_cons_zero, List.set_cons_succ]
              obtain ⟨⟨z0, z1, z2, z3⟩, zo, zg⟩ := own_first og px py
              have hB4 := og.grown_below hB3 hgs zg
              have HZO := Lib.hid (And.intro zo hB4)
              clear zo zg hB4 og hB3
              
              with_reducible refine wpAnyH_ready (rs := [10]) ?s1_u15 one_ne ?s2_u15
              case s1_u15 => kernel_rfl
              with_reducible refine AllReadyH.cons (o := ?s0_u15) (by simp only [List.getElem?_toArray, List.getElem?_cons_succ, List.getElem?_cons_zero]; exact rfl) (fun K hK => ?s3_u15) AllReadyH.nil
              go_simp
              skip
              with_reducible refine hK.out _ _ ?s1_u16 (fun hHeld => ?s2_u16)
              case s1_u16 => exact trivial
              clear hK K
              try simp only [Act.put, List.setIfInBounds_toArray, List.set_cons_zero, List.set_cons_succ]
              with_reducible refine wpAnyH_done ?s1_u17 ?s2_u17 _
              case s1_u17 => kernel_rfl
              exact ⟨ya, yb, px, py, g, rfl, by simp only [Act.put, List.setIfInBounds_toArray, List.set_cons_zero, List.set_cons_succ], px2, py2, HZO.out.1.rd, HZO.out.2⟩
          case b6_u9 =>
            intro K hK
            go_simp
            have hba := (below_alloc1 wa (.cells #[.int .i64 0, .int .i64 0] 50))
            have og := (own_oneS wa wa.heap.size 0 0 (Nat.le_refl _))
            have hgs0 : w3.heap.size ≤ wa.heap.size := hB3.size
            replace hB3 := bvia hB3 hba
            clear hba
            generalize hgq : wa.heap.size = g at og ⊢
            have hgs : w3.heap.size ≤ g := hgq ▸ hgs0
            clear hgq hgs0
            
            with_reducible refine hK.out _ _ ?s1_u18 (fun hHeld => ?s2_u18)
            case s1_u18 => exact trivial
            clear hK K
            try simp only [Act.put, List.setIfInBounds_toArray, List.set_cons_zero, List.set_cons_succ]
            with_reducible refine wpAnyH_ready (rs := [5]) ?s1_u19 (List.cons_ne_nil _ _) ?s2_u19
            case s1_u19 => kernel_rfl
            with_reducible refine AllReadyH.cons (o := ?b0_u19) (by simp only [List.getElem?_toArray, List.getElem?_cons_succ, List.getElem?_cons_zero]; exact rfl) ?b5_u19 AllReadyH.nil
            case b5_u19 =>
              intro K hK
              go_simp
              refine (at_any n 2 (by omega) (by omega) _ _ _ (hr.below hB3)).mono ?_
              rintro e wb ⟨yb, rfl, yb0, yb1, hd⟩
              have hb := hd.below
              clear hd
              replace hB3 := bvia hB3 hb
              replace og := og.below hb
              clear hb
              obtain ⟨py, pye⟩ : ∃ r, yb % ht = r := ⟨_, rfl⟩
              have py0 : ¬ ht = 0 := by omega
              have py1 : yb.tmod ht = py := by rw [Int.tmod_eq_emod_of_nonneg yb0]; exact pye
              have py2 : 0 ≤ py ∧ py ≤ ht - 1 := by
                rw [← pye]
                have h1 := Int.emod_nonneg yb py0
                have h2 := Int.emod_lt_of_pos yb (show 0 < ht by omega)
                omega
              have py3 : IntKind.i64.wrap py = py := IntWalk.i64_in _ (by omega)
              clear pye
              go_wp2_with fail
              with_reducible refine hK.out _ _ ?s1_u20 (fun hHeld => ?s2_u20)
              case s1_u20 => exact trivial
              clear hK K
              try simp only [Act.put, List.setIfInBounds_toArray, List.set_cons_zero, List.set_cons_succ]
              with_reducible refine takeI2 (i := 7) (v := ?sv_u21) (oi := ?s0_u21) (by simp only [List.getElem?_toArray, List.getElem?_cons_succ, List.getElem?_cons_zero]; exact rfl) ?s1_u21 ?s2_u21 ?s3_u21 ?s4_u21 ?s5_u21 ?s6_u21 ?s7_u21
              case s1_u21 => kernel_rfl
              case s2_u21 => kernel_rfl
              case s3_u21 => kernel_rfl
              case s4_u21 => exact panic_no5
              case s5_u21 => exact Or.inl ⟨rfl, by intro w hSw; (try dsimp only at hSw); go_simp; try with_reducible rfl⟩
              case s6_u21 => assumption
              try simp only [Act.put, List.setIfInBounds_toArray, List.set_cons_zero, List.set_cons_succ]
              with_reducible refine takeI2 (i := 8) (v := ?sv_u22) (oi := ?s0_u22) (by simp only [List.getElem?_toArray, List.getElem?_cons_succ, List.getElem?_cons_zero]; exact rfl) ?s1_u22 ?s2_u22 ?s3_u22 ?s4_u22 ?s5_u22 ?s6_u22 ?s7_u22
              case s1_u22 => kernel_rfl
              case s2_u22 => kernel_rfl
              case s3_u22 => kernel_rfl
              case s4_u22 => exact panic_no5
              case s5_u22 => exact Or.inl ⟨rfl, by intro w hSw; (try dsimp only at hSw); go_simp; try with_reducible rfl⟩
              case s6_u22 => assumption
              try simp only [Act.put, List.setIfInBounds_toArray, List.set_cons_zero, List.set_cons_succ]
              obtain ⟨⟨z0, z1, z2, z3⟩, zo, zg⟩ := own_first og px py
              have hB4 := og.grown_below hB3 hgs zg
              have HZO := Lib.hid (And.intro zo hB4)
              clear zo zg hB4 og hB3
              
              with_reducible refine wpAnyH_ready (rs := [10]) ?s1_u23 one_ne ?s2_u23
              case s1_u23 => kernel_rfl
              with_reducible refine AllReadyH.cons (o := ?s0_u23) (by simp only [List.getElem?_toArray, List.getElem?_cons_succ, List.getElem?_cons_zero]; exact rfl) (fun K hK => ?s3_u23) AllReadyH.nil
              go_simp
              skip
              with_reducible refine hK.out _ _ ?s1_u24 (fun hHeld => ?s2_u24)
              case s1_u24 => exact trivial
              clear hK K
              try simp only [Act.put, List.setIfInBounds_toArray, List.set_cons_zero, List.set_cons_succ]
              with_reducible refine wpAnyH_done ?s1_u25 ?s2_u25 _
              case s1_u25 => kernel_rfl
              exact ⟨ya, yb, px, py, g, rfl, by simp only [Act.put, List.setIfInBounds_toArray, List.set_cons_zero, List.set_cons_succ], px2, py2, HZO.out.1.rd, HZO.out.2⟩
        case b6_u6 =>
          intro K hK
          go_simp
          have hba := (below_alloc1 w3 (.cells #[.int .i64 0, .int .i64 0] 50)).drew
          have og := (own_oneS w3 w3.heap.size 0 0 (Nat.le_refl _)).drew
          have hgs0 : w3.heap.size ≤ w3.heap.size := hB3.size
          replace hB3 := hba
          clear hba
          generalize hgq : w3.heap.size = g at og ⊢
          have hgs : w3.heap.size ≤ g := hgq ▸ hgs0
          clear hgq hgs0
          
          with_reducible refine hK.out _ _ ?s1_u26 (fun hHeld => ?s2_u26)
          case s1_u26 => exact trivial
          clear hK K
          try simp only [Act.put, List.setIfInBounds_toArray, List.set_cons_zero, List.set_cons_succ]
          with_reducible refine wpAnyH_ready (rs := [1]) ?s1_u27 (List.cons_ne_nil _ _) ?s2_u27
          case s1_u27 => kernel_rfl
          with_reducible refine AllReadyH.cons (o := ?b0_u27) (by simp only [List.getElem?_toArray, List.getElem?_cons_succ, List.getElem?_cons_zero]; exact rfl) ?b5_u27 AllReadyH.nil
          case b5_u27 =>
            intro K hK
            go_simp
            refine (at_any n 1 (by omega) (by omega) _ _ _ (hr.below hB3)).mono ?_
            rintro e wa ⟨ya, rfl, ya0, ya1, hd⟩
            have hb := hd.below
            clear hd
            replace hB3 := bvia hB3 hb
            replace og := og.below hb
            clear hb
            obtain ⟨px, pxe⟩ : ∃ r, ya % wd = r := ⟨_, rfl⟩
            have px0 : ¬ wd = 0 := by omega
            have px1 : ya.tmod wd = px := by rw [Int.tmod_eq_emod_of_nonneg ya0]; exact pxe
            have px2 : 0 ≤ px ∧ px ≤ wd - 1 := by
              rw [← pxe]
              have h1 := Int.emod_nonneg ya px0
              have h2 := Int.emod_lt_of_pos ya (show 0 < wd by omega)
              omega
            have px3 : IntKind.i64.wrap px = px := IntWalk.i64_in _ (by omega)
            clear pxe
            go_wp2_with fail
            with_reducible refine hK.out _ _ ?s1_u28 (fun hHeld => ?s2_u28)
            case s1_u28 => exact trivial
            clear hK K
            try simp only [Act.put, List.setIfInBounds_toArray, List.set_cons_zero, List.set_cons_succ]
            with_reducible refine takeI2 (i := 3) (v := ?sv_u29) (oi := ?s0_u29) (by simp only [List.getElem?_toArray, List.getElem?_cons_succ, List.getElem?_cons_zero]; exact rfl) ?s1_u29 ?s2_u29 ?s3_u29 ?s4_u29 ?s5_u29 ?s6_u29 ?s7_u29
            case s1_u29 => kernel_rfl
            case s2_u29 => kernel_rfl
            case s3_u29 => kernel_rfl
            case s4_u29 => exact panic_no5
            case s5_u29 => exact Or.inl ⟨rfl, by intro w hSw; (try dsimp only at hSw); go_simp; try with_reducible rfl⟩
            case s6_u29 => assumption
            try simp only [Act.put, List.setIfInBounds_toArray, List.set_cons_zero, List.set_cons_succ]
            with_reducible refine wpAnyH_ready (rs := [5]) ?s1_u30 (List.cons_ne_nil _ _) ?s2_u30
            case s1_u30 => kernel_rfl
            with_reducible refine AllReadyH.cons (o := ?b0_u30) (by simp only [List.getElem?_toArray, List.getElem?_cons_succ, List.getElem?_cons_zero]; exact rfl) ?b5_u30 AllReadyH.nil
            case b5_u30 =>
              intro K hK
              go_simp
              refine (at_any n 2 (by omega) (by omega) _ _ _ (hr.below hB3)).mono ?_
              rintro e wb ⟨yb, rfl, yb0, yb1, hd⟩
              have hb := hd.below
              clear hd
              replace hB3 := bvia hB3 hb
              replace og := og.below hb
              clear hb
              obtain ⟨py, pye⟩ : ∃ r, yb % ht = r := ⟨_, rfl⟩
              have py0 : ¬ ht = 0 := by omega
              have py1 : yb.tmod ht = py := by rw [Int.tmod_eq_emod_of_nonneg yb0]; exact pye
              have py2 : 0 ≤ py ∧ py ≤ ht - 1 := by
                rw [← pye]
                have h1 := Int.emod_nonneg yb py0
                have h2 := Int.emod_lt_of_pos yb (show 0 < ht by omega)
                omega
              have py3 : IntKind.i64.wrap py = py := IntWalk.i64_in _ (by omega)
              clear pye
              go_wp2_with fail
              with_reducible refine hK.out _ _ ?s1_u31 (fun hHeld => ?s2_u31)
              case s1_u31 => exact trivial
              clear hK K
              try simp only [Act.put, List.setIfInBounds_toArray, List.set_cons_zero, List.set_cons_succ]
              with_reducible refine takeI2 (i := 7) (v := ?sv_u32) (oi := ?s0_u32) (by simp only [List.getElem?_toArray, List.getElem?_cons_succ, List.getElem?_cons_zero]; exact rfl) ?s1_u32 ?s2_u32 ?s3_u32 ?s4_u32 ?s5_u32 ?s6_u32 ?s7_u32
              case s1_u32 => kernel_rfl
              case s2_u32 => kernel_rfl
              case s3_u32 => kernel_rfl
              case s4_u32 => exact panic_no5
              case s5_u32 => exact Or.inl ⟨rfl, by intro w hSw; (try dsimp only at hSw); go_simp; try with_reducible rfl⟩
              case s6_u32 => assumption
              try simp only [Act.put, List.setIfInBounds_toArray, List.set_cons_zero, List.set_cons_succ]
              with_reducible refine takeI2 (i := 8) (v := ?sv_u33) (oi := ?s0_u33) (by simp only [List.getElem?_toArray, List.getElem?_cons_succ, List.getElem?_cons_zero]; exact rfl) ?s1_u33 ?s2_u33 ?s3_u33 ?s4_u33 ?s5_u33 ?s6_u33 ?s7_u33
              case s1_u33 => kernel_rfl
              case s2_u33 => kernel_rfl
              case s3_u33 => kernel_rfl
              case s4_u33 => exact panic_no5
              case s5_u33 => exact Or.inl ⟨rfl, by intro w hSw; (try dsimp only at hSw); go_simp; try with_reducible rfl⟩
              case s6_u33 => assumption
              try simp only [Act.put, List.setIfInBounds_toArray, List.set_cons_zero, List.set_cons_succ]
              obtain ⟨⟨z0, z1, z2, z3⟩, zo, zg⟩ := own_first og px py
              have hB4 := og.grown_below hB3 hgs zg
              have HZO := Lib.hid (And.intro zo hB4)
              clear zo zg hB4 og hB3
              
              with_reducible refine wpAnyH_ready (rs := [10]) ?s1_u34 one_ne ?s2_u34
              case s1_u34 => kernel_rfl
              with_reducible refine AllReadyH.cons (o := ?s0_u34) (by simp only [List.getElem?_toArray, List.getElem?_cons_succ, List.getElem?_cons_zero]; exact rfl) (fun K hK => ?s3_u34) AllReadyH.nil
              go_simp
              skip
              with_reducible refine hK.out _ _ ?s1_u35 (fun hHeld => ?s2_u35)
              case s1_u35 => exact trivial
              clear hK K
              try simp only [Act.put, List.setIfInBounds_toArray, List.set_cons_zero, List.set_cons_succ]
              with_reducible refine wpAnyH_done ?s1_u36 ?s2_u36 _
              case s1_u36 => kernel_rfl
              exact ⟨ya, yb, px, py, g, rfl, by simp only [Act.put, List.setIfInBounds_toArray, List.set_cons_zero, List.set_cons_succ], px2, py2, HZO.out.1.rd, HZO.out.2⟩
      case hcont =>
        rintro ya yb px py g W ⟨hpx, hpy, hrt, hb⟩
        simp only [Act.put, List.setIfInBounds_toArray, List.set_cons_zero, List.set_cons_succ]
        replace hro := hro.below hb
        replace hB := bvia hB hb
        clear hb hr
        have hg := HG.out _ (List.mem_of_getElem? HS.out)
        have ht' : spotB wd ht (px, py) = true := spotB_iff.2 ⟨hpx, hpy⟩
        obtain ⟨hc0, hst, hal, hle, htk, hse, hge, hc12⟩ := stages_ways HZ.out HS.out ht'
        dsimp only at hst
        have hmx := way_max HZ.out HS.out ht'
        have HWS := Lib.hid (fun h : 0 < wayF wd ht zs kn (px, py) => way_step HZ.out HS.out ht' h)
        generalize cheb (s0, s1) (px, py) = s at hc0 hst hal hle htk hse hge hc12
        have HST : Hid (∀ u, Calls Try.prog 39 #[.agg #[.int .i64 s0, .int .i64 s1], .agg #[.int .i64 px, .int .i64 py]] u fun e w' => e = .returned (.int .i64 s) ∧ Below u.heap.size u w') := fun u => by
          have h := implStepsBetween_any s0 s1 px py u
          rw [hst] at h
          exact h
        obtain ⟨m0, m1⟩ := rdSpot_first hrt
        go_wp2_with (fail)
        clear m0 m1
        refine (implWay_any wd ht zs kn px py _ _ hro).mono ?_
        rintro e w5 ⟨rfl, hb⟩
        replace hro := hro.below hb
        replace hrt := hrt.below hb
        replace hB := bvia hB hb
        clear hb
        obtain ⟨nn, hnn⟩ : ∃ y, wayF wd ht zs kn (px, py) = y := ⟨_, rfl⟩
        rw [hnn] at hle htk hse hge HWS hmx ⊢
        go_wp2_with (fail)
        replace hro := hro.drew
        replace hrt := hrt.drew
        replace hB := hB.drew
        with_reducible refine region_beg (n := 7) (S := (fun w' => (w'.cell? ⟨gl, kn * 2, none⟩ = some (.int .i64 s0) ∧ w'.cell? ⟨gl, kn * 2 + 1, none⟩ = some (.int .i64 s1)) ∧ w'.cell? ⟨g, 0, none⟩ = some (.int .i64 px) ∧ w'.cell? ⟨g, 1, none⟩ = some (.int .i64 py))) ?b1_u37 ?b2_u37 ?b3_u37 (fun hHeld => ?b4_u37)
        case b1_u37 => kernel_rfl
        case b2_u37 => kernel_rfl
        case b3_u37 => (try dsimp only); exact ⟨rdSpot_cell hro HS.out, rdSpot_first hrt⟩
        with_reducible refine takeI2 (i := 0) (v := ?sv_u38) (oi := ?s0_u38) (by simp only [List.getElem?_toArray, List.getElem?_cons_succ, List.getElem?_cons_zero]; exact rfl) ?s1_u38 ?s2_u38 ?s3_u38 ?s4_u38 ?s5_u38 ?s6_u38 ?s7_u38
        case s1_u38 => kernel_rfl
        case s2_u38 => kernel_rfl
        case s3_u38 => kernel_rfl
        case s4_u38 => exact fun _ _ _ h => h
        case s5_u38 => exact Or.inl ⟨rfl, by intro w hSw; (try dsimp only at hSw); go_simp; try with_reducible rfl⟩
        case s6_u38 => assumption
        try simp only [Act.put, List.setIfInBounds_toArray, List.set_cons_zero, List.set_cons_succ]
        with_reducible refine takeI2 (i := 1) (v := ?sv_u39) (oi := ?s0_u39) (by simp only [List.getElem?_toArray, List.getElem?_cons_succ, List.getElem?_cons_zero]; exact rfl) ?s1_u39 ?s2_u39 ?s3_u39 ?s4_u39 ?s5_u39 ?s6_u39 ?s7_u39
        case s1_u39 => kernel_rfl
        case s2_u39 => kernel_rfl
        case s3_u39 => kernel_rfl
        case s4_u39 => exact fun _ _ _ h => h
        case s5_u39 => exact Or.inl ⟨rfl, by intro w hSw; (try dsimp only at hSw); go_simp; try with_reducible rfl⟩
        case s6_u39 => assumption
        try simp only [Act.put, List.setIfInBounds_toArray, List.set_cons_zero, List.set_cons_succ]
        with_reducible refine takeI2 (i := 2) (v := ?sv_u40) (oi := ?s0_u40) (by simp only [List.getElem?_toArray, List.getElem?_cons_succ, List.getElem?_cons_zero]; exact rfl) ?s1_u40 ?s2_u40 ?s3_u40 ?s4_u40 ?s5_u40 ?s6_u40 ?s7_u40
        case s1_u40 => kernel_rfl
        case s2_u40 => kernel_rfl
        case s3_u40 => kernel_rfl
        case s4_u40 => exact fun _ _ _ h => h
        case s5_u40 => exact Or.inl ⟨rfl, by intro w hSw; (try dsimp only at hSw); go_simp; try with_reducible rfl⟩
        case s6_u40 => assumption
        try simp only [Act.put, List.setIfInBounds_toArray, List.set_cons_zero, List.set_cons_succ]
        with_reducible refine takeI2 (i := 3) (v := ?sv_u41) (oi := ?s0_u41) (by simp only [List.getElem?_toArray, List.getElem?_cons_succ, List.getElem?_cons_zero]; exact rfl) ?s1_u41 ?s2_u41 ?s3_u41 ?s4_u41 ?s5_u41 ?s6_u41 ?s7_u41
        case s1_u41 => kernel_rfl
        case s2_u41 => kernel_rfl
        case s3_u41 => kernel_rfl
        case s4_u41 => exact fun _ _ _ h => h
        case s5_u41 => exact Or.inl ⟨rfl, by intro w hSw; (try dsimp only at hSw); go_simp; try with_reducible rfl⟩
        case s6_u41 => assumption
        try simp only [Act.put, List.setIfInBounds_toArray, List.set_cons_zero, List.set_cons_succ]
        with_reducible refine takeI2 (i := 4) (v := ?sv_u42) (oi := ?s0_u42) (by simp only [List.getElem?_toArray, List.getElem?_cons_succ, List.getElem?_cons_zero]; exact rfl) ?s1_u42 ?s2_u42 ?s3_u42 ?s4_u42 ?s5_u42 ?s6_u42 ?s7_u42
        case s1_u42 => kernel_rfl
        case s2_u42 => kernel_rfl
        case s3_u42 => kernel_rfl
        case s4_u42 => exact fun _ _ _ h => h
        case s5_u42 => exact Or.inl ⟨rfl, by intro w hSw; (try dsimp only at hSw); go_simp; try with_reducible rfl⟩
        case s6_u42 => assumption
        try simp only [Act.put, List.setIfInBounds_toArray, List.set_cons_zero, List.set_cons_succ]
        with_reducible refine wpAnyH_ready (rs := [5]) ?s1_u43 one_ne ?s2_u43
        case s1_u43 => kernel_rfl
        with_reducible refine AllReadyH.cons (o := ?s0_u43) (by simp only [List.getElem?_toArray, List.getElem?_cons_succ, List.getElem?_cons_zero]; exact rfl) (fun K hK => ?s3_u43) AllReadyH.nil
        go_simp
        refine (HST.out _).mono ?_
        rintro e w6 ⟨rfl, hb⟩
        replace hro := hro.below hb
        replace hrt := hrt.below hb
        replace hB := bvia hB hb
        clear hb

        go_wp2_with fail
        with_reducible refine hK.out _ _ ?s1_u44 (fun hHeld => ?s2_u44)
        case s1_u44 => (try dsimp only); exact ⟨rdSpot_cell hro HS.out, rdSpot_first hrt⟩
        clear hK K
        try simp only [Act.put, List.setIfInBounds_toArray, List.set_cons_zero, List.set_cons_succ]
        with_reducible refine takeI2 (i := 6) (v := ?sv_u45) (oi := ?s0_u45) (by simp only [List.getElem?_toArray, List.getElem?_cons_succ, List.getElem?_cons_zero]; exact rfl) ?s1_u45 ?s2_u45 ?s3_u45 ?s4_u45 ?s5_u45 ?s6_u45 ?s7_u45
        case s1_u45 => kernel_rfl
        case s2_u45 => kernel_rfl
        case s3_u45 => kernel_rfl
        case s4_u45 => exact fun _ _ _ h => h
        case s5_u45 => exact Or.inl ⟨rfl, by intro w hSw; (try dsimp only at hSw); go_simp; try with_reducible rfl⟩
        case s6_u45 => assumption
        try simp only [Act.put, List.setIfInBounds_toArray, List.set_cons_zero, List.set_cons_succ]
        with_reducible refine wpAnyH_done ?s1_u46 ?s2_u46 _
        case s1_u46 => kernel_rfl
        clear HST hst
        go_wp2_with (fail)
        with_reducible refine region_beg (n := 10) (S := (fun w' => (w'.cell? ⟨gl, kn * 2, none⟩ = some (.int .i64 s0) ∧ w'.cell? ⟨gl, kn * 2 + 1, none⟩ = some (.int .i64 s1)) ∧ w'.cell? ⟨g, 0, none⟩ = some (.int .i64 px) ∧ w'.cell? ⟨g, 1, none⟩ = some (.int .i64 py))) ?b1_u47 ?b2_u47 ?b3_u47 (fun hHeld => ?b4_u47)
        case b1_u47 => kernel_rfl
        case b2_u47 => kernel_rfl
        case b3_u47 => (try dsimp only); exact ⟨rdSpot_cell hro.drew HS.out, rdSpot_first hrt.drew⟩
        with_reducible refine takeI2 (i := 0) (v := ?sv_u48) (oi := ?s0_u48) (by simp only [List.getElem?_toArray, List.getElem?_cons_succ, List.getElem?_cons_zero]; exact rfl) ?s1_u48 ?s2_u48 ?s3_u48 ?s4_u48 ?s5_u48 ?s6_u48 ?s7_u48
        case s1_u48 => kernel_rfl
        case s2_u48 => kernel_rfl
        case s3_u48 => kernel_rfl
        case s4_u48 => exact fun _ _ _ h => h
        case s5_u48 => exact Or.inl ⟨rfl, by intro w hSw; (try dsimp only at hSw); go_simp; try with_reducible rfl⟩
        case s6_u48 => assumption
        try simp only [Act.put, List.setIfInBounds_toArray, List.set_cons_zero, List.set_cons_succ]
        with_reducible refine takeI2 (i := 1) (v := ?sv_u49) (oi := ?s0_u49) (by simp only [List.getElem?_toArray, List.getElem?_cons_succ, List.getElem?_cons_zero]; exact rfl) ?s1_u49 ?s2_u49 ?s3_u49 ?s4_u49 ?s5_u49 ?s6_u49 ?s7_u49
        case s1_u49 => kernel_rfl
        case s2_u49 => kernel_rfl
        case s3_u49 => kernel_rfl
        case s4_u49 => exact fun _ _ _ h => h
        case s5_u49 => exact Or.inl ⟨rfl, by intro w hSw; (try dsimp only at hSw); go_simp; try with_reducible rfl⟩
        case s6_u49 => assumption
        try simp only [Act.put, List.setIfInBounds_toArray, List.set_cons_zero, List.set_cons_succ]
        with_reducible refine takeI2 (i := 2) (v := ?sv_u50) (oi := ?s0_u50) (by simp only [List.getElem?_toArray, List.getElem?_cons_succ, List.getElem?_cons_zero]; exact rfl) ?s1_u50 ?s2_u50 ?s3_u50 ?s4_u50 ?s5_u50 ?s6_u50 ?s7_u50
        case s1_u50 => kernel_rfl
        case s2_u50 => kernel_rfl
        case s3_u50 => kernel_rfl
        case s4_u50 => exact fun _ _ _ h => h
        case s5_u50 => exact Or.inl ⟨rfl, by intro w hSw; (try dsimp only at hSw); go_simp; try with_reducible rfl⟩
        case s6_u50 => assumption
        try simp only [Act.put, List.setIfInBounds_toArray, List.set_cons_zero, List.set_cons_succ]
        with_reducible refine takeI2 (i := 3) (v := ?sv_u51) (oi := ?s0_u51) (by simp only [List.getElem?_toArray, List.getElem?_cons_succ, List.getElem?_cons_zero]; exact rfl) ?s1_u51 ?s2_u51 ?s3_u51 ?s4_u51 ?s5_u51 ?s6_u51 ?s7_u51
        case s1_u51 => kernel_rfl
        case s2_u51 => kernel_rfl
        case s3_u51 => kernel_rfl
        case s4_u51 => exact fun _ _ _ h => h
        case s5_u51 => exact Or.inl ⟨rfl, by intro w hSw; (try dsimp only at hSw); go_simp; try with_reducible rfl⟩
        case s6_u51 => assumption
        try simp only [Act.put, List.setIfInBounds_toArray, List.set_cons_zero, List.set_cons_succ]
        with_reducible refine takeI2 (i := 4) (v := ?sv_u52) (oi := ?s0_u52) (by simp only [List.getElem?_toArray, List.getElem?_cons_succ, List.getElem?_cons_zero]; exact rfl) ?s1_u52 ?s2_u52 ?s3_u52 ?s4_u52 ?s5_u52 ?s6_u52 ?s7_u52
        case s1_u52 => kernel_rfl
        case s2_u52 => kernel_rfl
        case s3_u52 => kernel_rfl
        case s4_u52 => exact fun _ _ _ h => h
        case s5_u52 => exact Or.inl ⟨rfl, by intro w hSw; (try dsimp only at hSw); go_simp; try with_reducible rfl⟩
        case s6_u52 => assumption
        try simp only [Act.put, List.setIfInBounds_toArray, List.set_cons_zero, List.set_cons_succ]
        with_reducible refine takeI2 (i := 5) (v := ?sv_u53) (oi := ?s0_u53) (by simp only [List.getElem?_toArray, List.getElem?_cons_succ, List.getElem?_cons_zero]; exact rfl) ?s1_u53 ?s2_u53 ?s3_u53 ?s4_u53 ?s5_u53 ?s6_u53 ?s7_u53
        case s1_u53 => kernel_rfl
        case s2_u53 => kernel_rfl
        case s3_u53 => kernel_rfl
        case s4_u53 => exact fun _ _ _ h => h
        case s5_u53 => exact Or.inl ⟨rfl, by intro w hSw; (try dsimp only at hSw); go_simp; try with_reducible rfl⟩
        case s6_u53 => assumption
        try simp only [Act.put, List.setIfInBounds_toArray, List.set_cons_zero, List.set_cons_succ]
        with_reducible refine takeI2 (i := 7) (v := ?sv_u54) (oi := ?s0_u54) (by simp only [List.getElem?_toArray, List.getElem?_cons_succ, List.getElem?_cons_zero]; exact rfl) ?s1_u54 ?s2_u54 ?s3_u54 ?s4_u54 ?s5_u54 ?s6_u54 ?s7_u54
        case s1_u54 => kernel_rfl
        case s2_u54 => kernel_rfl
        case s3_u54 => kernel_rfl
        case s4_u54 => exact fun _ _ _ h => h
        case s5_u54 => exact Or.inl ⟨rfl, by intro w hSw; (try dsimp only at hSw); go_simp; try with_reducible rfl⟩
        case s6_u54 => assumption
        try simp only [Act.put, List.setIfInBounds_toArray, List.set_cons_zero, List.set_cons_succ]
        with_reducible refine wpAnyH_ready (rs := [6]) ?s1_u55 one_ne ?s2_u55
        case s1_u55 => kernel_rfl
        with_reducible refine AllReadyH.cons (o := ?s0_u55) (by simp only [List.getElem?_toArray, List.getElem?_cons_succ, List.getElem?_cons_zero]; exact rfl) (fun K hK => ?s3_u55) AllReadyH.nil
        go_simp
        have hbs := (below_alloc1 w6 (.cells #[.int .i64 s0, .int .i64 s1] 50)).drew
        have hr1 := (rdSpot_one w6 s0 s1).drew
        replace hro := hro.below hbs
        replace hrt := hrt.below hbs
        replace hB := bvia hB hbs
        clear hbs

        with_reducible refine hK.out _ _ ?s1_u56 (fun hHeld => ?s2_u56)
        case s1_u56 => (try dsimp only); exact ⟨rdSpot_cell hro HS.out, rdSpot_first hrt⟩
        clear hK K
        try simp only [Act.put, List.setIfInBounds_toArray, List.set_cons_zero, List.set_cons_succ]
        with_reducible refine wpAnyH_ready (rs := [8]) ?s1_u57 one_ne ?s2_u57
        case s1_u57 => kernel_rfl
        with_reducible refine AllReadyH.cons (o := ?s0_u57) (by simp only [List.getElem?_toArray, List.getElem?_cons_succ, List.getElem?_cons_zero]; exact rfl) (fun K hK => ?s3_u57) AllReadyH.nil
        go_simp
        refine (implWay_any wd ht [(s0, s1)] 0 px py _ _ hr1).mono ?_
        rintro e w7 ⟨rfl, hb⟩
        clear hr1
        replace hro := hro.below hb
        replace hrt := hrt.below hb
        replace hB := bvia hB hb
        clear hb
        rw [hal]
        go_wp2_with fail
        with_reducible refine hK.out _ _ ?s1_u58 (fun hHeld => ?s2_u58)
        case s1_u58 => (try dsimp only); exact ⟨rdSpot_cell hro HS.out, rdSpot_first hrt⟩
        clear hK K
        try simp only [Act.put, List.setIfInBounds_toArray, List.set_cons_zero, List.set_cons_succ]
        with_reducible refine takeI2 (i := 9) (v := ?sv_u59) (oi := ?s0_u59) (by simp only [List.getElem?_toArray, List.getElem?_cons_succ, List.getElem?_cons_zero]; exact rfl) ?s1_u59 ?s2_u59 ?s3_u59 ?s4_u59 ?s5_u59 ?s6_u59 ?s7_u59
        case s1_u59 => kernel_rfl
        case s2_u59 => kernel_rfl
        case s3_u59 => kernel_rfl
        case s4_u59 => exact fun _ _ _ h => h
        case s5_u59 => exact Or.inl ⟨rfl, by intro w hSw; (try dsimp only at hSw); go_simp; try with_reducible rfl⟩
        case s6_u59 => assumption
        try simp only [Act.put, List.setIfInBounds_toArray, List.set_cons_zero, List.set_cons_succ]
        with_reducible refine wpAnyH_done ?s1_u60 ?s2_u60 _
        case s1_u60 => kernel_rfl
        go_wp2_with (fail)
        have HM := Lib.hid hrt
        have HRO := Lib.hid hro
        go_loopw [11, 12] (fun a i wr => ∃ (j : Nat) (b : Bool), j ≤ zs.length ∧ a = .bool b ∧ i = .int .i64 j ∧ Dr w7 wr ∧ Hid (TkP zs kn j (px, py) b)) (fun _ i _ => zs.length - (intOf i).toNat)
        case atStart => exact ⟨0, false, Nat.zero_le _, rfl, rfl, Dr.refl _, by show TkP _ _ _ _ _; simp [TkP, isO]⟩
        case round =>
         focus
          obtain ⟨j, b, hj, rfl, rfl, hD, HT⟩ := hrel
          by_cases hlt : j < zs.length
          · obtain ⟨⟨x0, x1⟩, hx⟩ : ∃ x, zs[j]? = some x := ⟨_, List.getElem?_eq_getElem hlt⟩
            obtain ⟨c0, c1⟩ := rdSpot_cell hro hx
            obtain ⟨m0, m1⟩ := rdSpot_first hrt
            replace c0 := hD.cell c0
            replace c1 := hD.cell c1
            replace m0 := hD.cell m0
            replace m1 := hD.cell m1
            have qj : (j : Int) < (zs.length : Int) := by omega
            cases b with
            | true =>
              have HT2 : Hid (TkP zs kn (j + 1) (px, py) true) := by
                obtain ⟨i, hi, hik, hix⟩ := HT.out.1 rfl
                exact ⟨fun _ => ⟨i, by omega, hik, hix⟩, fun _ => rfl⟩
              clear HT hx
              go_wp2
              go_quiet (fail)
              go_wp2
              exact ⟨⟨j + 1, true, by omega, rfl, by go_num, hD.next _, HT2.out⟩, by simp [intOf]; omega⟩
            | false =>
              have hno : ¬ isO zs kn j (px, py) := fun h => absurd (HT.out.2 h) (by simp)
              by_cases hjk : j = kn
              · have HT2 : Hid (TkP zs kn (j + 1) (px, py) false) := by
                  refine ⟨fun h => absurd h (by simp), fun ⟨i, hi, hik, hix⟩ => absurd ⟨i, by omega, hik, hix⟩ hno⟩
                have hjb : ((j : Int) == (kn : Int)) = true := by rw [hjk]; exact beq_self_eq_true _
                have hje : (j : Int) = (kn : Int) := by rw [hjk]
                have hjn : ((j : Int) != (kn : Int)) = false := by simp [hje]
                clear HT hx hno hjk
                go_wp2
                go_quiet (fail)
                go_wp2
                exact ⟨⟨j + 1, false, by omega, rfl, by go_num, hD.next _, HT2.out⟩, by simp [intOf]; omega⟩
              · have hjb : ((j : Int) == (kn : Int)) = false := beq_eq_false_iff_ne.2 (by omega)
                have hje : ¬ (j : Int) = (kn : Int) := by omega
                have hjn : ((j : Int) != (kn : Int)) = true := by simp [bne, hjb]
                by_cases he : x0 = px ∧ x1 = py
                · obtain ⟨e0, e1⟩ := he
                  have HT2 : Hid (TkP zs kn (j + 1) (px, py) true) := ⟨fun _ => ⟨j, by omega, hjk, by rw [hx, e0, e1]⟩, fun _ => rfl⟩
                  have e0b : (x0 == px) = true := beq_iff_eq.2 e0
                  have e1b : (x1 == py) = true := beq_iff_eq.2 e1
                  clear HT hx hno hjk e0 e1
                  go_wp2
                  go_quiet (fail)
                  go_wp2
                  exact ⟨⟨j + 1, true, by omega, rfl, by go_num, hD.next _, HT2.out⟩, by simp [intOf]; omega⟩
                · have HT2 : Hid (TkP zs kn (j + 1) (px, py) false) := by
                    refine ⟨fun h => absurd h (by simp), fun ⟨i, hi, hik, hix⟩ => ?_⟩
                    by_cases hij : i = j
                    · subst hij
                      rw [hx] at hix
                      cases hix
                      exact absurd ⟨rfl, rfl⟩ he
                    · exact absurd ⟨i, by omega, hik, hix⟩ hno
                  clear HT hx hno hjk
                  by_cases e0 : x0 = px
                  · have e1b : (x1 == py) = false := beq_eq_false_iff_ne.2 fun e1 => he ⟨e0, e1⟩
                    have e0b : (x0 == px) = true := beq_iff_eq.2 e0
                    clear he e0
                    go_wp2
                    go_quiet (fail)
                    go_wp2
                    exact ⟨⟨j + 1, false, by omega, rfl, by go_num, hD.next _, HT2.out⟩, by simp [intOf]; omega⟩
                  · have e0b : (x0 == px) = false := beq_eq_false_iff_ne.2 e0
                    clear he e0
                    go_wp2
                    go_quiet (fail)
                    go_wp2
                    exact ⟨⟨j + 1, false, by omega, rfl, by go_num, hD.next _, HT2.out⟩, by simp [intOf]; omega⟩
          · obtain rfl : j = zs.length := by omega
            replace hro := hro.below hD.below
            replace hrt := hrt.below hD.below
            replace hB := bvia hB hD.below
            have htk2 : b = true → nn = -1 := fun h => htk (HT.out.1 h)
            clear hD HT HM HRO htk
            obtain ⟨w9, hw9⟩ : ∃ w9 : World, w9 = wr := ⟨_, rfl⟩
            subst hw9
            by_cases hn0 : 0 ≤ nn
            · have hsn := hle hn0
              obtain rfl : b = false := by
                cases b with
                | false => rfl
                | true => have := htk2 rfl; omega
              by_cases hnp : 0 < nn
              · have q1 : ¬ nn < s := by omega
                have q2 : ¬ s < 0 := by omega
                have q3 : ¬ s = 0 := fun h => by have := hse h; omega
                clear hle hse hge htk2
                have hn144 : nn ≤ 144 := hmx
                go_wp2_with (fail)
                go_loopw [13, 14] (fun a i wr => ∃ (d : Nat) (b : Bool), d ≤ 9 ∧ a = .bool b ∧ i = .int .i64 d ∧ Below w9.heap.size w9 wr ∧ Hid (∀ e, e < d → stepOk wd ht zs kn (((e % 3 : Nat) : Int) - 1) (((e / 3 : Nat) : Int) - 1) = true → wayF wd ht (stepL wd ht zs kn (((e % 3 : Nat) : Int) - 1) (((e / 3 : Nat) : Int) - 1)) kn (px, py) = nn - 1 → b = true)) (fun _ i _ => 9 - (intOf i).toNat)
                case atStart => exact ⟨0, false, by omega, rfl, rfl, Below.refl _ _, fun e he => absurd he (by omega)⟩
                case round =>
                 focus
                  obtain ⟨d, b, hd, rfl, rfl, hD, HN⟩ := hrel
                  by_cases hd9 : d < 9
                  · obtain ⟨ra, hra⟩ : ∃ ra, d % 3 = ra := ⟨_, rfl⟩
                    obtain ⟨rb, hrb⟩ : ∃ rb, d / 3 = rb := ⟨_, rfl⟩
                    have hab : ra ≤ 2 ∧ rb ≤ 2 := by omega
                    obtain ⟨hra2, hrb2⟩ := hab
                    have hm3 : (d : Int).tmod 3 = (ra : Int) := by rw [Int.tmod_eq_emod_of_nonneg (by omega)]; omega
                    have hd3 : (d : Int).tdiv 3 = (rb : Int) := by rw [Int.tdiv_eq_ediv_of_nonneg (by omega)]; omega
                    have HWK := Lib.hid (fun v' w' h => implWalk_any wd ht zs kn ((ra : Int) - 1) ((rb : Int) - 1) (by omega) v' w' h)
                    have HSTP : Hid (∀ b' : Bool, LeB b b' → StB (stepOk wd ht zs kn ((ra : Int) - 1) ((rb : Int) - 1)) (wayF wd ht (stepL wd ht zs kn ((ra : Int) - 1) ((rb : Int) - 1)) kn (px, py)) (nn - 1) b' → ∀ e, e < d + 1 → stepOk wd ht zs kn (((e % 3 : Nat) : Int) - 1) (((e / 3 : Nat) : Int) - 1) = true → wayF wd ht (stepL wd ht zs kn (((e % 3 : Nat) : Int) - 1) (((e / 3 : Nat) : Int) - 1)) kn (px, py) = nn - 1 → b' = true) := by
                      intro b' h1 h2 e he h3 h4
                      by_cases hed : e = d
                      · subst hed
                        rw [hra, hrb] at h3 h4
                        exact h2 h3 h4
                      · exact h1 (HN.out e (by omega) h3 h4)
                    clear HN hra hrb
                    generalize stepOk wd ht zs kn ((ra : Int) - 1) ((rb : Int) - 1) = ok at HWK HSTP
                    generalize stepL wd ht zs kn ((ra : Int) - 1) ((rb : Int) - 1) = xs at HWK HSTP
                    have hw9s := hD.size
                    go_wp2_with (fail)
                    refine (HWK.out _ _ (hro.below hD)).mono ?_
                    rintro e wk ⟨ux, rfl, ox, hb⟩
                    replace hD := bvia hD hb
                    clear hb HWK
                    obtain ⟨m0, m1⟩ := rdSpot_first (hrt.below hD)
                    cases b with
                    | true =>
                      go_wp2_with (fail)
                      exact ⟨⟨d + 1, true, by omega, rfl, by go_num, hD, HSTP.out true (fun _ => rfl) (fun _ _ => rfl)⟩, by simp [intOf]; omega⟩
                    | false =>
                      cases ok with
                      | false =>
                        go_wp2_with (fail)
                        exact ⟨⟨d + 1, false, by omega, rfl, by go_num, hD, HSTP.out false (fun h => h) (fun h => nomatch h)⟩, by simp [intOf]; omega⟩
                      | true =>
                        go_wp2_with (fail)
                        refine (implWay_any wd ht xs kn px py _ _ ox.rd).mono ?_
                        rintro e wl ⟨rfl, hb⟩
                        replace hD := bvia hD hb
                        clear hb m0 m1 ox
                        generalize wayF wd ht xs kn (px, py) = yy at HSTP ⊢
                        obtain ⟨bb, hbb⟩ : ∃ bb : Bool, decide (yy = nn - 1) = bb := ⟨_, rfl⟩
                        have hbb2 : (yy == nn - 1) = bb := by rw [← hbb]; rfl
                        have HS2 : Hid (_) := HSTP.out bb (fun h => nomatch h) (fun _ h => by rw [← hbb]; exact decide_eq_true h)
                        clear HSTP
                        go_wp2_with (fail)
                        exact ⟨⟨d + 1, bb, by omega, rfl, by go_num, hD, HS2.out⟩, by simp [intOf]; omega⟩
                  · obtain rfl : b = true := by
                      obtain ⟨e, he, h1, h2⟩ := HWS.out hnp
                      exact HN.out e (by omega) h1 h2
                    obtain rfl : d = 9 := by omega
                    replace hro := hro.below hD
                    replace hB := bvia hB hD
                    clear hD HN HWS hrt
                    go_wp2_with (fail)
                    refine (implCloseEnough_any zs 1 _ _ hro).mono ?_
                    rintro e wc ⟨uc, rfl, oc, hb⟩
                    replace hro := hro.below hb
                    replace hB := bvia hB hb
                    clear hb
                    obtain ⟨ac, cc, rfl⟩ := oc.rd.shape
                    clear oc
                    have hcn49 := (closeF_len zs 1).1
                    have HCL : Hid (closeF zs 1 = pairsF zs 1 0 (zs.length - 0)) := by show _ = _; rw [Nat.sub_zero]; exact if_pos hl7
                    have HC0 : Hid (0 + (pairsF zs 1 0 (zs.length - 0)).length = (closeF zs 1).length) := by show _ = _; rw [HCL.out]; omega
                    generalize (closeF zs 1).length = cn at hcn49 HC0 ⊢
                    clear HCL
                    go_wp2_with (fail)
                    go_loopw [18, 19] (fun a i wr => ∃ (j p : Nat), j ≤ zs.length ∧ a = .int .i64 p ∧ i = .int .i64 j ∧ Below wc.heap.size wc wr ∧ Hid (p + (pairsF zs 1 j (zs.length - j)).length = cn)) (fun _ i _ => zs.length - (intOf i).toNat)
                    case atStart => exact ⟨0, 0, Nat.zero_le _, rfl, rfl, Below.refl _ _, HC0.out⟩
                    case round =>
                     focus
                      clear HC0
                      obtain ⟨j, p, hj, rfl, rfl, hD, HP⟩ := hrel
                      by_cases hlt : j < zs.length
                      · have HP1 : Hid (p + ((rowF zs 1 j (j + 1) (zs.length - (j + 1))).length + (pairsF zs 1 (j + 1) (zs.length - (j + 1))).length) = cn) := by
                          show _ = _
                          rw [← HP.out, pairsF_step zs 1 hlt, List.length_append]
                        obtain ⟨wo, hwo⟩ : ∃ wo : World, wo = wr := ⟨_, rfl⟩
                        subst hwo
                        clear HP
                        go_wp2_with (fail)
                        go_loopw [18, 20] (fun a i wr => ∃ (k p : Nat), j + 1 ≤ k ∧ k ≤ zs.length ∧ a = .int .i64 p ∧ i = .int .i64 k ∧ Below wc.heap.size wc wr ∧ Hid (p + ((rowF zs 1 j k (zs.length - k)).length + (pairsF zs 1 (j + 1) (zs.length - (j + 1))).length) = cn)) (fun _ i _ => zs.length - (intOf i).toNat)
                        case atStart => exact ⟨j + 1, p, Nat.le_refl _, hlt, rfl, by go_num, hD, HP1.out⟩
                        case round =>
                         focus
                          clear HP1 hD
                          obtain ⟨k, p, hjk, hk, rfl, rfl, hD, HP⟩ := hrel
                          have hpc : p ≤ 49 := by
                            have := HP.out
                            omega
                          by_cases hkl : k < zs.length
                          · obtain ⟨⟨x0, x1⟩, hx⟩ : ∃ x, zs[j]? = some x := ⟨_, List.getElem?_eq_getElem hlt⟩
                            obtain ⟨⟨y0, y1⟩, hy⟩ : ∃ x, zs[k]? = some x := ⟨_, List.getElem?_eq_getElem hkl⟩
                            have hgx : zs.getD j (0, 0) = (x0, x1) := by rw [List.getD_eq_getElem?_getD, hx]; rfl
                            have hgy : zs.getD k (0, 0) = (y0, y1) := by rw [List.getD_eq_getElem?_getD, hy]; rfl
                            have hn0 : stepsAt zs j k = stepsBetween x0 x1 y0 y1 := by rw [stepsAt, hgx, hgy]
                            have hge0 := stepsAt_ge HZ.out hlt hkl
                            have hstep := HP.out
                            rw [rowF_step zs 1 j hkl, nearB, hn0, List.length_append] at hstep
                            rw [hn0] at hge0
                            have HSB := Lib.hid (fun u => implStepsBetween_any x0 x1 y0 y1 u)
                            generalize stepsBetween x0 x1 y0 y1 = sb at hge0 hstep HSB
                            rw [decide_eq_true hge0, Bool.true_and] at hstep
                            obtain ⟨bv, hbv⟩ : ∃ bv : Bool, decide (sb ≤ 1) = bv := ⟨_, rfl⟩
                            rw [hbv] at hstep
                            obtain ⟨cx0, cx1⟩ := rdSpot_cell (hro.below hD) hx
                            obtain ⟨cy0, cy1⟩ := rdSpot_cell (hro.below hD) hy
                            have qj : (j : Int) < (zs.length : Int) := by omega
                            have qk : (k : Int) < (zs.length : Int) := by omega
                            obtain ⟨fv, hfv⟩ : ∃ fv : Nat, (if bv = true then 1 else 0) = fv := ⟨_, rfl⟩
                            have HSTEP : Hid (p + fv + ((rowF zs 1 j (k + 1) (zs.length - (k + 1))).length + (pairsF zs 1 (j + 1) (zs.length - (j + 1))).length) = cn) := by
                              show _ = _
                              rw [← hfv]
                              cases bv with
                              | true =>
                                simp only [if_true, List.length_cons, List.length_nil] at hstep ⊢
                                omega
                              | false =>
                                simp at hstep ⊢
                                omega
                            have hfv1 : fv ≤ 1 := by
                              rw [← hfv]
                              split <;> omega
                            have HBT : Hid (∀ w, Calls Try.prog 40 #[.bool bv] w fun e w' => e = .returned (.int .i64 (fv : Int)) ∧ w = w') := fun w => by
                              have h := btoi_any bv w
                              rw [show (if bv = true then (1 : Int) else 0) = (fv : Int) by rw [← hfv]; cases bv <;> rfl] at h
                              exact h
                            clear hfv
                            have hpf : IntKind.i64.wrap ((p : Int) + (fv : Int)) = ((p + fv : Nat) : Int) := by rw [Int.natCast_add]; exact IntWalk.i64_in _ (by omega)
                            have HXY := Lib.hid (And.intro hx hy)
                            clear hx hy hgx hgy hn0 hge0 hstep HP cx0 cx1 cy0 cy1
                            go_wp2_with (fail)
                            have hro2 := (hro.below hD).drew
                            replace hD := hD.drew
                            with_reducible refine region_beg (n := 14) (S := (fun w' => (w'.cell? ⟨gl, j * 2, none⟩ = some (.int .i64 x0) ∧ w'.cell? ⟨gl, j * 2 + 1, none⟩ = some (.int .i64 x1)) ∧ w'.cell? ⟨gl, k * 2, none⟩ = some (.int .i64 y0) ∧ w'.cell? ⟨gl, k * 2 + 1, none⟩ = some (.int .i64 y1))) ?b1_u115 ?b2_u115 ?b3_u115 (fun hHeld => ?b4_u115)
                            case b1_u115 => kernel_rfl
                            case b2_u115 => kernel_rfl
                            case b3_u115 => (try dsimp only); exact ⟨rdSpot_cell hro2 HXY.out.1, rdSpot_cell hro2 HXY.out.2⟩
                            with_reducible refine takeI2 (i := 0) (v := ?sv_u116) (oi := ?s0_u116) (by simp only [List.getElem?_toArray, List.getElem?_cons_succ, List.getElem?_cons_zero]; exact rfl) ?s1_u116 ?s2_u116 ?s3_u116 ?s4_u116 ?s5_u116 ?s6_u116 ?s7_u116
                            case s1_u116 => kernel_rfl
                            case s2_u116 => kernel_rfl
                            case s3_u116 => kernel_rfl
                            case s4_u116 => exact fun _ _ _ h => h
                            case s5_u116 => exact Or.inl ⟨rfl, by intro w hSw; (try dsimp only at hSw); go_simp; try with_reducible rfl⟩
                            case s6_u116 => assumption
                            try simp only [Act.put, List.setIfInBounds_toArray, List.set_cons_zero, List.set_cons_succ]
                            with_reducible refine takeI2 (i := 1) (v := ?sv_u117) (oi := ?s0_u117) (by simp only [List.getElem?_toArray, List.getElem?_cons_succ, List.getElem?_cons_zero]; exact rfl) ?s1_u117 ?s2_u117 ?s3_u117 ?s4_u117 ?s5_u117 ?s6_u117 ?s7_u117
                            case s1_u117 => kernel_rfl
                            case s2_u117 => kernel_rfl
                            case s3_u117 => kernel_rfl
                            case s4_u117 => exact fun _ _ _ h => h
                            case s5_u117 => exact Or.inl ⟨rfl, by intro w hSw; (try dsimp only at hSw); go_simp; try with_reducible rfl⟩
                            case s6_u117 => assumption
                            try simp only [Act.put, List.setIfInBounds_toArray, List.set_cons_zero, List.set_cons_succ]
                            with_reducible refine takeI2 (i := 2) (v := ?sv_u118) (oi := ?s0_u118) (by simp only [List.getElem?_toArray, List.getElem?_cons_succ, List.getElem?_cons_zero]; exact rfl) ?s1_u118 ?s2_u118 ?s3_u118 ?s4_u118 ?s5_u118 ?s6_u118 ?s7_u118
                            case s1_u118 => kernel_rfl
                            case s2_u118 => kernel_rfl
                            case s3_u118 => kernel_rfl
                            case s4_u118 => exact fun _ _ _ h => h
                            case s5_u118 => exact Or.inl ⟨rfl, by intro w hSw; (try dsimp only at hSw); go_simp; try with_reducible rfl⟩
                            case s6_u118 => assumption
                            try simp only [Act.put, List.setIfInBounds_toArray, List.set_cons_zero, List.set_cons_succ]
                            with_reducible refine takeI2 (i := 3) (v := ?sv_u119) (oi := ?s0_u119) (by simp only [List.getElem?_toArray, List.getElem?_cons_succ, List.getElem?_cons_zero]; exact rfl) ?s1_u119 ?s2_u119 ?s3_u119 ?s4_u119 ?s5_u119 ?s6_u119 ?s7_u119
                            case s1_u119 => kernel_rfl
                            case s2_u119 => kernel_rfl
                            case s3_u119 => kernel_rfl
                            case s4_u119 => exact fun _ _ _ h => h
                            case s5_u119 => exact Or.inl ⟨rfl, by intro w hSw; (try dsimp only at hSw); go_simp; try with_reducible rfl⟩
                            case s6_u119 => assumption
                            try simp only [Act.put, List.setIfInBounds_toArray, List.set_cons_zero, List.set_cons_succ]
                            with_reducible refine takeI2 (i := 4) (v := ?sv_u120) (oi := ?s0_u120) (by simp only [List.getElem?_toArray, List.getElem?_cons_succ, List.getElem?_cons_zero]; exact rfl) ?s1_u120 ?s2_u120 ?s3_u120 ?s4_u120 ?s5_u120 ?s6_u120 ?s7_u120
                            case s1_u120 => kernel_rfl
                            case s2_u120 => kernel_rfl
                            case s3_u120 => kernel_rfl
                            case s4_u120 => exact fun _ _ _ h => h
                            case s5_u120 => exact Or.inl ⟨rfl, by intro w hSw; (try dsimp only at hSw); go_simp; try with_reducible rfl⟩
                            case s6_u120 => assumption
                            try simp only [Act.put, List.setIfInBounds_toArray, List.set_cons_zero, List.set_cons_succ]
                            with_reducible refine takeI2 (i := 5) (v := ?sv_u121) (oi := ?s0_u121) (by simp only [List.getElem?_toArray, List.getElem?_cons_succ, List.getElem?_cons_zero]; exact rfl) ?s1_u121 ?s2_u121 ?s3_u121 ?s4_u121 ?s5_u121 ?s6_u121 ?s7_u121
                            case s1_u121 => kernel_rfl
                            case s2_u121 => kernel_rfl
                            case s3_u121 => kernel_rfl
                            case s4_u121 => exact fun _ _ _ h => h
                            case s5_u121 => exact Or.inl ⟨rfl, by intro w hSw; (try dsimp only at hSw); go_simp; try with_reducible rfl⟩
                            case s6_u121 => assumption
                            try simp only [Act.put, List.setIfInBounds_toArray, List.set_cons_zero, List.set_cons_succ]
                            with_reducible refine takeI2 (i := 6) (v := ?sv_u122) (oi := ?s0_u122) (by simp only [List.getElem?_toArray, List.getElem?_cons_succ, List.getElem?_cons_zero]; exact rfl) ?s1_u122 ?s2_u122 ?s3_u122 ?s4_u122 ?s5_u122 ?s6_u122 ?s7_u122
                            case s1_u122 => kernel_rfl
                            case s2_u122 => kernel_rfl
                            case s3_u122 => kernel_rfl
                            case s4_u122 => exact fun _ _ _ h => h
                            case s5_u122 => exact Or.inl ⟨rfl, by intro w hSw; (try dsimp only at hSw); go_simp; try with_reducible rfl⟩
                            case s6_u122 => assumption
                            try simp only [Act.put, List.setIfInBounds_toArray, List.set_cons_zero, List.set_cons_succ]
                            with_reducible refine takeI2 (i := 7) (v := ?sv_u123) (oi := ?s0_u123) (by simp only [List.getElem?_toArray, List.getElem?_cons_succ, List.getElem?_cons_zero]; exact rfl) ?s1_u123 ?s2_u123 ?s3_u123 ?s4_u123 ?s5_u123 ?s6_u123 ?s7_u123
                            case s1_u123 => kernel_rfl
                            case s2_u123 => kernel_rfl
                            case s3_u123 => kernel_rfl
                            case s4_u123 => exact fun _ _ _ h => h
                            case s5_u123 => exact Or.inl ⟨rfl, by intro w hSw; (try dsimp only at hSw); go_simp; try with_reducible rfl⟩
                            case s6_u123 => assumption
                            try simp only [Act.put, List.setIfInBounds_toArray, List.set_cons_zero, List.set_cons_succ]
                            with_reducible refine takeI2 (i := 8) (v := ?sv_u124) (oi := ?s0_u124) (by simp only [List.getElem?_toArray, List.getElem?_cons_succ, List.getElem?_cons_zero]; exact rfl) ?s1_u124 ?s2_u124 ?s3_u124 ?s4_u124 ?s5_u124 ?s6_u124 ?s7_u124
                            case s1_u124 => kernel_rfl
                            case s2_u124 => kernel_rfl
                            case s3_u124 => kernel_rfl
                            case s4_u124 => exact fun _ _ _ h => h
                            case s5_u124 => exact Or.inl ⟨rfl, by intro w hSw; (try dsimp only at hSw); go_simp; try with_reducible rfl⟩
                            case s6_u124 => assumption
                            try simp only [Act.put, List.setIfInBounds_toArray, List.set_cons_zero, List.set_cons_succ]
                            with_reducible refine wpAnyH_ready (rs := [9]) ?s1_u125 one_ne ?s2_u125
                            case s1_u125 => kernel_rfl
                            with_reducible refine AllReadyH.cons (o := ?s0_u125) (by simp only [List.getElem?_toArray, List.getElem?_cons_succ, List.getElem?_cons_zero]; exact rfl) (fun K hK => ?s3_u125) AllReadyH.nil
                            go_simp
                            refine (HSB.out _).mono ?_
                            rintro e wd1 ⟨rfl, hb⟩
                            replace hro2 := hro2.below hb
                            replace hD := bvia hD hb
                            clear hb
                            go_wp2_with fail
                            with_reducible refine hK.out _ _ ?s1_u126 (fun hHeld => ?s2_u126)
                            case s1_u126 => (try dsimp only); exact ⟨rdSpot_cell hro2 HXY.out.1, rdSpot_cell hro2 HXY.out.2⟩
                            clear hK K
                            try simp only [Act.put, List.setIfInBounds_toArray, List.set_cons_zero, List.set_cons_succ]
                            with_reducible refine takeI2 (i := 10) (v := ?sv_u127) (oi := ?s0_u127) (by simp only [List.getElem?_toArray, List.getElem?_cons_succ, List.getElem?_cons_zero]; exact rfl) ?s1_u127 ?s2_u127 ?s3_u127 ?s4_u127 ?s5_u127 ?s6_u127 ?s7_u127
                            case s1_u127 => kernel_rfl
                            case s2_u127 => kernel_rfl
                            case s3_u127 => kernel_rfl
                            case s4_u127 => exact fun _ _ _ h => h
                            case s5_u127 => exact Or.inl ⟨rfl, by intro w hSw; (try dsimp only at hSw); go_simp; try with_reducible rfl⟩
                            case s6_u127 => assumption
                            try simp only [Act.put, List.setIfInBounds_toArray, List.set_cons_zero, List.set_cons_succ]
                            with_reducible refine wpAnyH_ready (rs := [11]) ?s1_u128 one_ne ?s2_u128
                            case s1_u128 => kernel_rfl
                            with_reducible refine AllReadyH.cons (o := ?s0_u128) (by simp only [List.getElem?_toArray, List.getElem?_cons_succ, List.getElem?_cons_zero]; exact rfl) (fun K hK => ?s3_u128) AllReadyH.nil
                            go_simp
                            refine (HBT.out _).mono ?_
                            rintro e wd2 ⟨rfl, rfl⟩
                            go_wp2_with fail
                            with_reducible refine hK.out _ _ ?s1_u129 (fun hHeld => ?s2_u129)
                            case s1_u129 => (try dsimp only); exact ⟨rdSpot_cell hro2 HXY.out.1, rdSpot_cell hro2 HXY.out.2⟩
                            clear hK K
                            try simp only [Act.put, List.setIfInBounds_toArray, List.set_cons_zero, List.set_cons_succ]
                            with_reducible refine takeI2 (i := 12) (v := ?sv_u130) (oi := ?s0_u130) (by simp only [List.getElem?_toArray, List.getElem?_cons_succ, List.getElem?_cons_zero]; exact rfl) ?s1_u130 ?s2_u130 ?s3_u130 ?s4_u130 ?s5_u130 ?s6_u130 ?s7_u130
                            case s1_u130 => kernel_rfl
                            case s2_u130 => kernel_rfl
                            case s3_u130 => kernel_rfl
                            case s4_u130 => exact fun _ _ _ h => h
                            case s5_u130 => exact Or.inl ⟨rfl, by intro w hSw; (try dsimp only at hSw); go_simp; try with_reducible rfl⟩
                            case s6_u130 => assumption
                            try simp only [Act.put, List.setIfInBounds_toArray, List.set_cons_zero, List.set_cons_succ]
                            with_reducible refine takeI2 (i := 13) (v := ?sv_u131) (oi := ?s0_u131) (by simp only [List.getElem?_toArray, List.getElem?_cons_succ, List.getElem?_cons_zero]; exact rfl) ?s1_u131 ?s2_u131 ?s3_u131 ?s4_u131 ?s5_u131 ?s6_u131 ?s7_u131
                            case s1_u131 => kernel_rfl
                            case s2_u131 => kernel_rfl
                            case s3_u131 => kernel_rfl
                            case s4_u131 => exact fun _ _ _ h => h
                            case s5_u131 => exact Or.inl ⟨rfl, by intro w hSw; (try dsimp only at hSw); go_simp; try with_reducible rfl⟩
                            case s6_u131 => assumption
                            try simp only [Act.put, List.setIfInBounds_toArray, List.set_cons_zero, List.set_cons_succ]
                            with_reducible refine wpAnyH_done ?s1_u132 ?s2_u132 _
                            case s1_u132 => kernel_rfl
                            go_wp2_with (fail)
                            exact ⟨⟨k + 1, p + fv, by omega, by omega, by go_num, by go_num, hD, HSTEP.out⟩, by simp [intOf]; omega⟩
                          · have HP2 : Hid (p + (pairsF zs 1 (j + 1) (zs.length - (j + 1))).length = cn) := by
                              show _ = _
                              have := HP.out
                              rw [rowF_over zs 1 j (by omega)] at this
                              simpa using this
                            clear HP
                            go_wp2_with (fail)
                            exact ⟨⟨j + 1, p, by omega, rfl, by go_num, hD, HP2.out⟩, by simp [intOf]; omega⟩
                      · have hpc : p = cn := by
                          have := HP.out
                          rw [pairsF_end zs 1 (by omega)] at this
                          simpa using this
                        subst hpc
                        clear HP
                        have HB2 := Lib.hid (bvia hB hD)
                        have hro2 := hro.below hD
                        go_wp2_with (fail)
                        refine (implSpotsOk_any wd ht zs _ _ hro2).mono ?_
                        rintro e we ⟨rfl, hb⟩
                        rw [HZ.out]
                        go_wp2_with (fail)
                        go_returns
                        exact ⟨rfl, bvia HB2.out hb⟩
              · obtain rfl : nn = 0 := by omega
                obtain rfl : s = 0 := by omega
                clear hle hse hge htk2 hsn hc0 hnp HWS hrt
                go_wp2_with (fail)
                go_loopw [13, 14] (fun a i wr => a = .bool false ∧ i = .int .i64 0 ∧ w9 = wr) (fun _ i _ => (1 - intOf i).toNat)
                case atStart => exact ⟨rfl, rfl, rfl⟩
                case round =>
                 focus
                  obtain ⟨rfl, rfl, rfl⟩ := hrel
                  go_wp2_with (fail)
                  refine (implCloseEnough_any zs 1 _ _ hro).mono ?_
                  rintro e wc ⟨uc, rfl, oc, hb⟩
                  replace hro := hro.below hb
                  replace hB := bvia hB hb
                  clear hb
                  obtain ⟨ac, cc, rfl⟩ := oc.rd.shape
                  clear oc
                  have hcn49 := (closeF_len zs 1).1
                  have HCL : Hid (closeF zs 1 = pairsF zs 1 0 (zs.length - 0)) := by show _ = _; rw [Nat.sub_zero]; exact if_pos hl7
                  have HC0 : Hid (0 + (pairsF zs 1 0 (zs.length - 0)).length = (closeF zs 1).length) := by show _ = _; rw [HCL.out]; omega
                  generalize (closeF zs 1).length = cn at hcn49 HC0 ⊢
                  clear HCL
                  go_wp2_with (fail)
                  go_loopw [18, 19] (fun a i wr => ∃ (j p : Nat), j ≤ zs.length ∧ a = .int .i64 p ∧ i = .int .i64 j ∧ Below wc.heap.size wc wr ∧ Hid (p + (pairsF zs 1 j (zs.length - j)).length = cn)) (fun _ i _ => zs.length - (intOf i).toNat)
                  case atStart => exact ⟨0, 0, Nat.zero_le _, rfl, rfl, Below.refl _ _, HC0.out⟩
                  case round =>
                   focus
                    clear HC0
                    obtain ⟨j, p, hj, rfl, rfl, hD, HP⟩ := hrel
                    by_cases hlt : j < zs.length
                    · have HP1 : Hid (p + ((rowF zs 1 j (j + 1) (zs.length - (j + 1))).length + (pairsF zs 1 (j + 1) (zs.length - (j + 1))).length) = cn) := by
                        show _ = _
                        rw [← HP.out, pairsF_step zs 1 hlt, List.length_append]
                      obtain ⟨wo, hwo⟩ : ∃ wo : World, wo = wr := ⟨_, rfl⟩
                      subst hwo
                      clear HP
                      go_wp2_with (fail)
                      go_loopw [18, 20] (fun a i wr => ∃ (k p : Nat), j + 1 ≤ k ∧ k ≤ zs.length ∧ a = .int .i64 p ∧ i = .int .i64 k ∧ Below wc.heap.size wc wr ∧ Hid (p + ((rowF zs 1 j k (zs.length - k)).length + (pairsF zs 1 (j + 1) (zs.length - (j + 1))).length) = cn)) (fun _ i _ => zs.length - (intOf i).toNat)
                      case atStart => exact ⟨j + 1, p, Nat.le_refl _, hlt, rfl, by go_num, hD, HP1.out⟩
                      case round =>
                       focus
                        clear HP1 hD
                        obtain ⟨k, p, hjk, hk, rfl, rfl, hD, HP⟩ := hrel
                        have hpc : p ≤ 49 := by
                          have := HP.out
                          omega
                        by_cases hkl : k < zs.length
                        · obtain ⟨⟨x0, x1⟩, hx⟩ : ∃ x, zs[j]? = some x := ⟨_, List.getElem?_eq_getElem hlt⟩
                          obtain ⟨⟨y0, y1⟩, hy⟩ : ∃ x, zs[k]? = some x := ⟨_, List.getElem?_eq_getElem hkl⟩
                          have hgx : zs.getD j (0, 0) = (x0, x1) := by rw [List.getD_eq_getElem?_getD, hx]; rfl
                          have hgy : zs.getD k (0, 0) = (y0, y1) := by rw [List.getD_eq_getElem?_getD, hy]; rfl
                          have hn0 : stepsAt zs j k = stepsBetween x0 x1 y0 y1 := by rw [stepsAt, hgx, hgy]
                          have hge0 := stepsAt_ge HZ.out hlt hkl
                          have hstep := HP.out
                          rw [rowF_step zs 1 j hkl, nearB, hn0, List.length_append] at hstep
                          rw [hn0] at hge0
                          have HSB := Lib.hid (fun u => implStepsBetween_any x0 x1 y0 y1 u)
                          generalize stepsBetween x0 x1 y0 y1 = sb at hge0 hstep HSB
                          rw [decide_eq_true hge0, Bool.true_and] at hstep
                          obtain ⟨bv, hbv⟩ : ∃ bv : Bool, decide (sb ≤ 1) = bv := ⟨_, rfl⟩
                          rw [hbv] at hstep
                          obtain ⟨cx0, cx1⟩ := rdSpot_cell (hro.below hD) hx
                          obtain ⟨cy0, cy1⟩ := rdSpot_cell (hro.below hD) hy
                          have qj : (j : Int) < (zs.length : Int) := by omega
                          have qk : (k : Int) < (zs.length : Int) := by omega
                          obtain ⟨fv, hfv⟩ : ∃ fv : Nat, (if bv = true then 1 else 0) = fv := ⟨_, rfl⟩
                          have HSTEP : Hid (p + fv + ((rowF zs 1 j (k + 1) (zs.length - (k + 1))).length + (pairsF zs 1 (j + 1) (zs.length - (j + 1))).length) = cn) := by
                            show _ = _
                            rw [← hfv]
                            cases bv with
                            | true =>
                              simp only [if_true, List.length_cons, List.length_nil] at hstep ⊢
                              omega
                            | false =>
                              simp at hstep ⊢
                              omega
                          have hfv1 : fv ≤ 1 := by
                            rw [← hfv]
                            split <;> omega
                          have HBT : Hid (∀ w, Calls Try.prog 40 #[.bool bv] w fun e w' => e = .returned (.int .i64 (fv : Int)) ∧ w = w') := fun w => by
                            have h := btoi_any bv w
                            rw [show (if bv = true then (1 : Int) else 0) = (fv : Int) by rw [← hfv]; cases bv <;> rfl] at h
                            exact h
                          clear hfv
                          have hpf : IntKind.i64.wrap ((p : Int) + (fv : Int)) = ((p + fv : Nat) : Int) := by rw [Int.natCast_add]; exact IntWalk.i64_in _ (by omega)
                          have HXY := Lib.hid (And.intro hx hy)
                          clear hx hy hgx hgy hn0 hge0 hstep HP cx0 cx1 cy0 cy1
                          go_wp2_with (fail)
                          have hro2 := (hro.below hD).drew
                          replace hD := hD.drew
                          with_reducible refine region_beg (n := 14) (S := (fun w' => (w'.cell? ⟨gl, j * 2, none⟩ = some (.int .i64 x0) ∧ w'.cell? ⟨gl, j * 2 + 1, none⟩ = some (.int .i64 x1)) ∧ w'.cell? ⟨gl, k * 2, none⟩ = some (.int .i64 y0) ∧ w'.cell? ⟨gl, k * 2 + 1, none⟩ = some (.int .i64 y1))) ?b1_u97 ?b2_u97 ?b3_u97 (fun hHeld => ?b4_u97)
                          case b1_u97 => kernel_rfl
                          case b2_u97 => kernel_rfl
                          case b3_u97 => (try dsimp only); exact ⟨rdSpot_cell hro2 HXY.out.1, rdSpot_cell hro2 HXY.out.2⟩
                          with_reducible refine takeI2 (i := 0) (v := ?sv_u98) (oi := ?s0_u98) (by simp only [List.getElem?_toArray, List.getElem?_cons_succ, List.getElem?_cons_zero]; exact rfl) ?s1_u98 ?s2_u98 ?s3_u98 ?s4_u98 ?s5_u98 ?s6_u98 ?s7_u98
                          case s1_u98 => kernel_rfl
                          case s2_u98 => kernel_rfl
                          case s3_u98 => kernel_rfl
                          case s4_u98 => exact fun _ _ _ h => h
                          case s5_u98 => exact Or.inl ⟨rfl, by intro w hSw; (try dsimp only at hSw); go_simp; try with_reducible rfl⟩
                          case s6_u98 => assumption
                          try simp only [Act.put, List.setIfInBounds_toArray, List.set_cons_zero, List.set_cons_succ]
                          with_reducible refine takeI2 (i := 1) (v := ?sv_u99) (oi := ?s0_u99) (by simp only [List.getElem?_toArray, List.getElem?_cons_succ, List.getElem?_cons_zero]; exact rfl) ?s1_u99 ?s2_u99 ?s3_u99 ?s4_u99 ?s5_u99 ?s6_u99 ?s7_u99
                          case s1_u99 => kernel_rfl
                          case s2_u99 => kernel_rfl
                          case s3_u99 => kernel_rfl
                          case s4_u99 => exact fun _ _ _ h => h
                          case s5_u99 => exact Or.inl ⟨rfl, by intro w hSw; (try dsimp only at hSw); go_simp; try with_reducible rfl⟩
                          case s6_u99 => assumption
                          try simp only [Act.put, List.setIfInBounds_toArray, List.set_cons_zero, List.set_cons_succ]
                          with_reducible refine takeI2 (i := 2) (v := ?sv_u100) (oi := ?s0_u100) (by simp only [List.getElem?_toArray, List.getElem?_cons_succ, List.getElem?_cons_zero]; exact rfl) ?s1_u100 ?s2_u100 ?s3_u100 ?s4_u100 ?s5_u100 ?s6_u100 ?s7_u100
                          case s1_u100 => kernel_rfl
                          case s2_u100 => kernel_rfl
                          case s3_u100 => kernel_rfl
                          case s4_u100 => exact fun _ _ _ h => h
                          case s5_u100 => exact Or.inl ⟨rfl, by intro w hSw; (try dsimp only at hSw); go_simp; try with_reducible rfl⟩
                          case s6_u100 => assumption
                          try simp only [Act.put, List.setIfInBounds_toArray, List.set_cons_zero, List.set_cons_succ]
                          with_reducible refine takeI2 (i := 3) (v := ?sv_u101) (oi := ?s0_u101) (by simp only [List.getElem?_toArray, List.getElem?_cons_succ, List.getElem?_cons_zero]; exact rfl) ?s1_u101 ?s2_u101 ?s3_u101 ?s4_u101 ?s5_u101 ?s6_u101 ?s7_u101
                          case s1_u101 => kernel_rfl
                          case s2_u101 => kernel_rfl
                          case s3_u101 => kernel_rfl
                          case s4_u101 => exact fun _ _ _ h => h
                          case s5_u101 => exact Or.inl ⟨rfl, by intro w hSw; (try dsimp only at hSw); go_simp; try with_reducible rfl⟩
                          case s6_u101 => assumption
                          try simp only [Act.put, List.setIfInBounds_toArray, List.set_cons_zero, List.set_cons_succ]
                          with_reducible refine takeI2 (i := 4) (v := ?sv_u102) (oi := ?s0_u102) (by simp only [List.getElem?_toArray, List.getElem?_cons_succ, List.getElem?_cons_zero]; exact rfl) ?s1_u102 ?s2_u102 ?s3_u102 ?s4_u102 ?s5_u102 ?s6_u102 ?s7_u102
                          case s1_u102 => kernel_rfl
                          case s2_u102 => kernel_rfl
                          case s3_u102 => kernel_rfl
                          case s4_u102 => exact fun _ _ _ h => h
                          case s5_u102 => exact Or.inl ⟨rfl, by intro w hSw; (try dsimp only at hSw); go_simp; try with_reducible rfl⟩
                          case s6_u102 => assumption
                          try simp only [Act.put, List.setIfInBounds_toArray, List.set_cons_zero, List.set_cons_succ]
                          with_reducible refine takeI2 (i := 5) (v := ?sv_u103) (oi := ?s0_u103) (by simp only [List.getElem?_toArray, List.getElem?_cons_succ, List.getElem?_cons_zero]; exact rfl) ?s1_u103 ?s2_u103 ?s3_u103 ?s4_u103 ?s5_u103 ?s6_u103 ?s7_u103
                          case s1_u103 => kernel_rfl
                          case s2_u103 => kernel_rfl
                          case s3_u103 => kernel_rfl
                          case s4_u103 => exact fun _ _ _ h => h
                          case s5_u103 => exact Or.inl ⟨rfl, by intro w hSw; (try dsimp only at hSw); go_simp; try with_reducible rfl⟩
                          case s6_u103 => assumption
                          try simp only [Act.put, List.setIfInBounds_toArray, List.set_cons_zero, List.set_cons_succ]
                          with_reducible refine takeI2 (i := 6) (v := ?sv_u104) (oi := ?s0_u104) (by simp only [List.getElem?_toArray, List.getElem?_cons_succ, List.getElem?_cons_zero]; exact rfl) ?s1_u104 ?s2_u104 ?s3_u104 ?s4_u104 ?s5_u104 ?s6_u104 ?s7_u104
                          case s1_u104 => kernel_rfl
                          case s2_u104 => kernel_rfl
                          case s3_u104 => kernel_rfl
                          case s4_u104 => exact fun _ _ _ h => h
                          case s5_u104 => exact Or.inl ⟨rfl, by intro w hSw; (try dsimp only at hSw); go_simp; try with_reducible rfl⟩
                          case s6_u104 => assumption
                          try simp only [Act.put, List.setIfInBounds_toArray, List.set_cons_zero, List.set_cons_succ]
                          with_reducible refine takeI2 (i := 7) (v := ?sv_u105) (oi := ?s0_u105) (by simp only [List.getElem?_toArray, List.getElem?_cons_succ, List.getElem?_cons_zero]; exact rfl) ?s1_u105 ?s2_u105 ?s3_u105 ?s4_u105 ?s5_u105 ?s6_u105 ?s7_u105
                          case s1_u105 => kernel_rfl
                          case s2_u105 => kernel_rfl
                          case s3_u105 => kernel_rfl
                          case s4_u105 => exact fun _ _ _ h => h
                          case s5_u105 => exact Or.inl ⟨rfl, by intro w hSw; (try dsimp only at hSw); go_simp; try with_reducible rfl⟩
                          case s6_u105 => assumption
                          try simp only [Act.put, List.setIfInBounds_toArray, List.set_cons_zero, List.set_cons_succ]
                          with_reducible refine takeI2 (i := 8) (v := ?sv_u106) (oi := ?s0_u106) (by simp only [List.getElem?_toArray, List.getElem?_cons_succ, List.getElem?_cons_zero]; exact rfl) ?s1_u106 ?s2_u106 ?s3_u106 ?s4_u106 ?s5_u106 ?s6_u106 ?s7_u106
                          case s1_u106 => kernel_rfl
                          case s2_u106 => kernel_rfl
                          case s3_u106 => kernel_rfl
                          case s4_u106 => exact fun _ _ _ h => h
                          case s5_u106 => exact Or.inl ⟨rfl, by intro w hSw; (try dsimp only at hSw); go_simp; try with_reducible rfl⟩
                          case s6_u106 => assumption
                          try simp only [Act.put, List.setIfInBounds_toArray, List.set_cons_zero, List.set_cons_succ]
                          with_reducible refine wpAnyH_ready (rs := [9]) ?s1_u107 one_ne ?s2_u107
                          case s1_u107 => kernel_rfl
                          with_reducible refine AllReadyH.cons (o := ?s0_u107) (by simp only [List.getElem?_toArray, List.getElem?_cons_succ, List.getElem?_cons_zero]; exact rfl) (fun K hK => ?s3_u107) AllReadyH.nil
                          go_simp
                          refine (HSB.out _).mono ?_
                          rintro e wd1 ⟨rfl, hb⟩
                          replace hro2 := hro2.below hb
                          replace hD := bvia hD hb
                          clear hb
                          go_wp2_with fail
                          with_reducible refine hK.out _ _ ?s1_u108 (fun hHeld => ?s2_u108)
                          case s1_u108 => (try dsimp only); exact ⟨rdSpot_cell hro2 HXY.out.1, rdSpot_cell hro2 HXY.out.2⟩
                          clear hK K
                          try simp only [Act.put, List.setIfInBounds_toArray, List.set_cons_zero, List.set_cons_succ]
                          with_reducible refine takeI2 (i := 10) (v := ?sv_u109) (oi := ?s0_u109) (by simp only [List.getElem?_toArray, List.getElem?_cons_succ, List.getElem?_cons_zero]; exact rfl) ?s1_u109 ?s2_u109 ?s3_u109 ?s4_u109 ?s5_u109 ?s6_u109 ?s7_u109
                          case s1_u109 => kernel_rfl
                          case s2_u109 => kernel_rfl
                          case s3_u109 => kernel_rfl
                          case s4_u109 => exact fun _ _ _ h => h
                          case s5_u109 => exact Or.inl ⟨rfl, by intro w hSw; (try dsimp only at hSw); go_simp; try with_reducible rfl⟩
                          case s6_u109 => assumption
                          try simp only [Act.put, List.setIfInBounds_toArray, List.set_cons_zero, List.set_cons_succ]
                          with_reducible refine wpAnyH_ready (rs := [11]) ?s1_u110 one_ne ?s2_u110
                          case s1_u110 => kernel_rfl
                          with_reducible refine AllReadyH.cons (o := ?s0_u110) (by simp only [List.getElem?_toArray, List.getElem?_cons_succ, List.getElem?_cons_zero]; exact rfl) (fun K hK => ?s3_u110) AllReadyH.nil
                          go_simp
                          refine (HBT.out _).mono ?_
                          rintro e wd2 ⟨rfl, rfl⟩
                          go_wp2_with fail
                          with_reducible refine hK.out _ _ ?s1_u111 (fun hHeld => ?s2_u111)
                          case s1_u111 => (try dsimp only); exact ⟨rdSpot_cell hro2 HXY.out.1, rdSpot_cell hro2 HXY.out.2⟩
                          clear hK K
                          try simp only [Act.put, List.setIfInBounds_toArray, List.set_cons_zero, List.set_cons_succ]
                          with_reducible refine takeI2 (i := 12) (v := ?sv_u112) (oi := ?s0_u112) (by simp only [List.getElem?_toArray, List.getElem?_cons_succ, List.getElem?_cons_zero]; exact rfl) ?s1_u112 ?s2_u112 ?s3_u112 ?s4_u112 ?s5_u112 ?s6_u112 ?s7_u112
                          case s1_u112 => kernel_rfl
                          case s2_u112 => kernel_rfl
                          case s3_u112 => kernel_rfl
                          case s4_u112 => exact fun _ _ _ h => h
                          case s5_u112 => exact Or.inl ⟨rfl, by intro w hSw; (try dsimp only at hSw); go_simp; try with_reducible rfl⟩
                          case s6_u112 => assumption
                          try simp only [Act.put, List.setIfInBounds_toArray, List.set_cons_zero, List.set_cons_succ]
                          with_reducible refine takeI2 (i := 13) (v := ?sv_u113) (oi := ?s0_u113) (by simp only [List.getElem?_toArray, List.getElem?_cons_succ, List.getElem?_cons_zero]; exact rfl) ?s1_u113 ?s2_u113 ?s3_u113 ?s4_u113 ?s5_u113 ?s6_u113 ?s7_u113
                          case s1_u113 => kernel_rfl
                          case s2_u113 => kernel_rfl
                          case s3_u113 => kernel_rfl
                          case s4_u113 => exact fun _ _ _ h => h
                          case s5_u113 => exact Or.inl ⟨rfl, by intro w hSw; (try dsimp only at hSw); go_simp; try with_reducible rfl⟩
                          case s6_u113 => assumption
                          try simp only [Act.put, List.setIfInBounds_toArray, List.set_cons_zero, List.set_cons_succ]
                          with_reducible refine wpAnyH_done ?s1_u114 ?s2_u114 _
                          case s1_u114 => kernel_rfl
                          go_wp2_with (fail)
                          exact ⟨⟨k + 1, p + fv, by omega, by omega, by go_num, by go_num, hD, HSTEP.out⟩, by simp [intOf]; omega⟩
                        · have HP2 : Hid (p + (pairsF zs 1 (j + 1) (zs.length - (j + 1))).length = cn) := by
                            show _ = _
                            have := HP.out
                            rw [rowF_over zs 1 j (by omega)] at this
                            simpa using this
                          clear HP
                          go_wp2_with (fail)
                          exact ⟨⟨j + 1, p, by omega, rfl, by go_num, hD, HP2.out⟩, by simp [intOf]; omega⟩
                    · have hpc : p = cn := by
                        have := HP.out
                        rw [pairsF_end zs 1 (by omega)] at this
                        simpa using this
                      subst hpc
                      clear HP
                      have HB2 := Lib.hid (bvia hB hD)
                      have hro2 := hro.below hD
                      go_wp2_with (fail)
                      refine (implSpotsOk_any wd ht zs _ _ hro2).mono ?_
                      rintro e we ⟨rfl, hb⟩
                      rw [HZ.out]
                      go_wp2_with (fail)
                      go_returns
                      exact ⟨rfl, bvia HB2.out hb⟩
            · obtain rfl : nn = -1 := by omega
              have q2 : ¬ s < 0 := by omega
              have q3 : ¬ s = 0 := fun h => by have := hse h; omega
              clear hle hse hge htk2 HWS hrt
              cases b with
              | true =>
                go_wp2_with (fail)
                go_loopw [13, 14] (fun a i wr => a = .bool false ∧ i = .int .i64 0 ∧ w9 = wr) (fun _ i _ => (1 - intOf i).toNat)
                case atStart => exact ⟨rfl, rfl, rfl⟩
                case round =>
                 focus
                  obtain ⟨rfl, rfl, rfl⟩ := hrel
                  go_wp2_with (fail)
                  refine (implCloseEnough_any zs 1 _ _ hro).mono ?_
                  rintro e wc ⟨uc, rfl, oc, hb⟩
                  replace hro := hro.below hb
                  replace hB := bvia hB hb
                  clear hb
                  obtain ⟨ac, cc, rfl⟩ := oc.rd.shape
                  clear oc
                  have hcn49 := (closeF_len zs 1).1
                  have HCL : Hid (closeF zs 1 = pairsF zs 1 0 (zs.length - 0)) := by show _ = _; rw [Nat.sub_zero]; exact if_pos hl7
                  have HC0 : Hid (0 + (pairsF zs 1 0 (zs.length - 0)).length = (closeF zs 1).length) := by show _ = _; rw [HCL.out]; omega
                  generalize (closeF zs 1).length = cn at hcn49 HC0 ⊢
                  clear HCL
                  go_wp2_with (fail)
                  go_loopw [18, 19] (fun a i wr => ∃ (j p : Nat), j ≤ zs.length ∧ a = .int .i64 p ∧ i = .int .i64 j ∧ Below wc.heap.size wc wr ∧ Hid (p + (pairsF zs 1 j (zs.length - j)).length = cn)) (fun _ i _ => zs.length - (intOf i).toNat)
                  case atStart => exact ⟨0, 0, Nat.zero_le _, rfl, rfl, Below.refl _ _, HC0.out⟩
                  case round =>
                   focus
                    clear HC0
                    obtain ⟨j, p, hj, rfl, rfl, hD, HP⟩ := hrel
                    by_cases hlt : j < zs.length
                    · have HP1 : Hid (p + ((rowF zs 1 j (j + 1) (zs.length - (j + 1))).length + (pairsF zs 1 (j + 1) (zs.length - (j + 1))).length) = cn) := by
                        show _ = _
                        rw [← HP.out, pairsF_step zs 1 hlt, List.length_append]
                      obtain ⟨wo, hwo⟩ : ∃ wo : World, wo = wr := ⟨_, rfl⟩
                      subst hwo
                      clear HP
                      go_wp2_with (fail)
                      go_loopw [18, 20] (fun a i wr => ∃ (k p : Nat), j + 1 ≤ k ∧ k ≤ zs.length ∧ a = .int .i64 p ∧ i = .int .i64 k ∧ Below wc.heap.size wc wr ∧ Hid (p + ((rowF zs 1 j k (zs.length - k)).length + (pairsF zs 1 (j + 1) (zs.length - (j + 1))).length) = cn)) (fun _ i _ => zs.length - (intOf i).toNat)
                      case atStart => exact ⟨j + 1, p, Nat.le_refl _, hlt, rfl, by go_num, hD, HP1.out⟩
                      case round =>
                       focus
                        clear HP1 hD
                        obtain ⟨k, p, hjk, hk, rfl, rfl, hD, HP⟩ := hrel
                        have hpc : p ≤ 49 := by
                          have := HP.out
                          omega
                        by_cases hkl : k < zs.length
                        · obtain ⟨⟨x0, x1⟩, hx⟩ : ∃ x, zs[j]? = some x := ⟨_, List.getElem?_eq_getElem hlt⟩
                          obtain ⟨⟨y0, y1⟩, hy⟩ : ∃ x, zs[k]? = some x := ⟨_, List.getElem?_eq_getElem hkl⟩
                          have hgx : zs.getD j (0, 0) = (x0, x1) := by rw [List.getD_eq_getElem?_getD, hx]; rfl
                          have hgy : zs.getD k (0, 0) = (y0, y1) := by rw [List.getD_eq_getElem?_getD, hy]; rfl
                          have hn0 : stepsAt zs j k = stepsBetween x0 x1 y0 y1 := by rw [stepsAt, hgx, hgy]
                          have hge0 := stepsAt_ge HZ.out hlt hkl
                          have hstep := HP.out
                          rw [rowF_step zs 1 j hkl, nearB, hn0, List.length_append] at hstep
                          rw [hn0] at hge0
                          have HSB := Lib.hid (fun u => implStepsBetween_any x0 x1 y0 y1 u)
                          generalize stepsBetween x0 x1 y0 y1 = sb at hge0 hstep HSB
                          rw [decide_eq_true hge0, Bool.true_and] at hstep
                          obtain ⟨bv, hbv⟩ : ∃ bv : Bool, decide (sb ≤ 1) = bv := ⟨_, rfl⟩
                          rw [hbv] at hstep
                          obtain ⟨cx0, cx1⟩ := rdSpot_cell (hro.below hD) hx
                          obtain ⟨cy0, cy1⟩ := rdSpot_cell (hro.below hD) hy
                          have qj : (j : Int) < (zs.length : Int) := by omega
                          have qk : (k : Int) < (zs.length : Int) := by omega
                          obtain ⟨fv, hfv⟩ : ∃ fv : Nat, (if bv = true then 1 else 0) = fv := ⟨_, rfl⟩
                          have HSTEP : Hid (p + fv + ((rowF zs 1 j (k + 1) (zs.length - (k + 1))).length + (pairsF zs 1 (j + 1) (zs.length - (j + 1))).length) = cn) := by
                            show _ = _
                            rw [← hfv]
                            cases bv with
                            | true =>
                              simp only [if_true, List.length_cons, List.length_nil] at hstep ⊢
                              omega
                            | false =>
                              simp at hstep ⊢
                              omega
                          have hfv1 : fv ≤ 1 := by
                            rw [← hfv]
                            split <;> omega
                          have HBT : Hid (∀ w, Calls Try.prog 40 #[.bool bv] w fun e w' => e = .returned (.int .i64 (fv : Int)) ∧ w = w') := fun w => by
                            have h := btoi_any bv w
                            rw [show (if bv = true then (1 : Int) else 0) = (fv : Int) by rw [← hfv]; cases bv <;> rfl] at h
                            exact h
                          clear hfv
                          have hpf : IntKind.i64.wrap ((p : Int) + (fv : Int)) = ((p + fv : Nat) : Int) := by rw [Int.natCast_add]; exact IntWalk.i64_in _ (by omega)
                          have HXY := Lib.hid (And.intro hx hy)
                          clear hx hy hgx hgy hn0 hge0 hstep HP cx0 cx1 cy0 cy1
                          go_wp2_with (fail)
                          have hro2 := (hro.below hD).drew
                          replace hD := hD.drew
                          with_reducible refine region_beg (n := 14) (S := (fun w' => (w'.cell? ⟨gl, j * 2, none⟩ = some (.int .i64 x0) ∧ w'.cell? ⟨gl, j * 2 + 1, none⟩ = some (.int .i64 x1)) ∧ w'.cell? ⟨gl, k * 2, none⟩ = some (.int .i64 y0) ∧ w'.cell? ⟨gl, k * 2 + 1, none⟩ = some (.int .i64 y1))) ?b1_u61 ?b2_u61 ?b3_u61 (fun hHeld => ?b4_u61)
                          case b1_u61 => kernel_rfl
                          case b2_u61 => kernel_rfl
                          case b3_u61 => (try dsimp only); exact ⟨rdSpot_cell hro2 HXY.out.1, rdSpot_cell hro2 HXY.out.2⟩
                          with_reducible refine takeI2 (i := 0) (v := ?sv_u62) (oi := ?s0_u62) (by simp only [List.getElem?_toArray, List.getElem?_cons_succ, List.getElem?_cons_zero]; exact rfl) ?s1_u62 ?s2_u62 ?s3_u62 ?s4_u62 ?s5_u62 ?s6_u62 ?s7_u62
                          case s1_u62 => kernel_rfl
                          case s2_u62 => kernel_rfl
                          case s3_u62 => kernel_rfl
                          case s4_u62 => exact fun _ _ _ h => h
                          case s5_u62 => exact Or.inl ⟨rfl, by intro w hSw; (try dsimp only at hSw); go_simp; try with_reducible rfl⟩
                          case s6_u62 => assumption
                          try simp only [Act.put, List.setIfInBounds_toArray, List.set_cons_zero, List.set_cons_succ]
                          with_reducible refine takeI2 (i := 1) (v := ?sv_u63) (oi := ?s0_u63) (by simp only [List.getElem?_toArray, List.getElem?_cons_succ, List.getElem?_cons_zero]; exact rfl) ?s1_u63 ?s2_u63 ?s3_u63 ?s4_u63 ?s5_u63 ?s6_u63 ?s7_u63
                          case s1_u63 => kernel_rfl
                          case s2_u63 => kernel_rfl
                          case s3_u63 => kernel_rfl
                          case s4_u63 => exact fun _ _ _ h => h
                          case s5_u63 => exact Or.inl ⟨rfl, by intro w hSw; (try dsimp only at hSw); go_simp; try with_reducible rfl⟩
                          case s6_u63 => assumption
                          try simp only [Act.put, List.setIfInBounds_toArray, List.set_cons_zero, List.set_cons_succ]
                          with_reducible refine takeI2 (i := 2) (v := ?sv_u64) (oi := ?s0_u64) (by simp only [List.getElem?_toArray, List.getElem?_cons_succ, List.getElem?_cons_zero]; exact rfl) ?s1_u64 ?s2_u64 ?s3_u64 ?s4_u64 ?s5_u64 ?s6_u64 ?s7_u64
                          case s1_u64 => kernel_rfl
                          case s2_u64 => kernel_rfl
                          case s3_u64 => kernel_rfl
                          case s4_u64 => exact fun _ _ _ h => h
                          case s5_u64 => exact Or.inl ⟨rfl, by intro w hSw; (try dsimp only at hSw); go_simp; try with_reducible rfl⟩
                          case s6_u64 => assumption
                          try simp only [Act.put, List.setIfInBounds_toArray, List.set_cons_zero, List.set_cons_succ]
                          with_reducible refine takeI2 (i := 3) (v := ?sv_u65) (oi := ?s0_u65) (by simp only [List.getElem?_toArray, List.getElem?_cons_succ, List.getElem?_cons_zero]; exact rfl) ?s1_u65 ?s2_u65 ?s3_u65 ?s4_u65 ?s5_u65 ?s6_u65 ?s7_u65
                          case s1_u65 => kernel_rfl
                          case s2_u65 => kernel_rfl
                          case s3_u65 => kernel_rfl
                          case s4_u65 => exact fun _ _ _ h => h
                          case s5_u65 => exact Or.inl ⟨rfl, by intro w hSw; (try dsimp only at hSw); go_simp; try with_reducible rfl⟩
                          case s6_u65 => assumption
                          try simp only [Act.put, List.setIfInBounds_toArray, List.set_cons_zero, List.set_cons_succ]
                          with_reducible refine takeI2 (i := 4) (v := ?sv_u66) (oi := ?s0_u66) (by simp only [List.getElem?_toArray, List.getElem?_cons_succ, List.getElem?_cons_zero]; exact rfl) ?s1_u66 ?s2_u66 ?s3_u66 ?s4_u66 ?s5_u66 ?s6_u66 ?s7_u66
                          case s1_u66 => kernel_rfl
                          case s2_u66 => kernel_rfl
                          case s3_u66 => kernel_rfl
                          case s4_u66 => exact fun _ _ _ h => h
                          case s5_u66 => exact Or.inl ⟨rfl, by intro w hSw; (try dsimp only at hSw); go_simp; try with_reducible rfl⟩
                          case s6_u66 => assumption
                          try simp only [Act.put, List.setIfInBounds_toArray, List.set_cons_zero, List.set_cons_succ]
                          with_reducible refine takeI2 (i := 5) (v := ?sv_u67) (oi := ?s0_u67) (by simp only [List.getElem?_toArray, List.getElem?_cons_succ, List.getElem?_cons_zero]; exact rfl) ?s1_u67 ?s2_u67 ?s3_u67 ?s4_u67 ?s5_u67 ?s6_u67 ?s7_u67
                          case s1_u67 => kernel_rfl
                          case s2_u67 => kernel_rfl
                          case s3_u67 => kernel_rfl
                          case s4_u67 => exact fun _ _ _ h => h
                          case s5_u67 => exact Or.inl ⟨rfl, by intro w hSw; (try dsimp only at hSw); go_simp; try with_reducible rfl⟩
                          case s6_u67 => assumption
                          try simp only [Act.put, List.setIfInBounds_toArray, List.set_cons_zero, List.set_cons_succ]
                          with_reducible refine takeI2 (i := 6) (v := ?sv_u68) (oi := ?s0_u68) (by simp only [List.getElem?_toArray, List.getElem?_cons_succ, List.getElem?_cons_zero]; exact rfl) ?s1_u68 ?s2_u68 ?s3_u68 ?s4_u68 ?s5_u68 ?s6_u68 ?s7_u68
                          case s1_u68 => kernel_rfl
                          case s2_u68 => kernel_rfl
                          case s3_u68 => kernel_rfl
                          case s4_u68 => exact fun _ _ _ h => h
                          case s5_u68 => exact Or.inl ⟨rfl, by intro w hSw; (try dsimp only at hSw); go_simp; try with_reducible rfl⟩
                          case s6_u68 => assumption
                          try simp only [Act.put, List.setIfInBounds_toArray, List.set_cons_zero, List.set_cons_succ]
                          with_reducible refine takeI2 (i := 7) (v := ?sv_u69) (oi := ?s0_u69) (by simp only [List.getElem?_toArray, List.getElem?_cons_succ, List.getElem?_cons_zero]; exact rfl) ?s1_u69 ?s2_u69 ?s3_u69 ?s4_u69 ?s5_u69 ?s6_u69 ?s7_u69
                          case s1_u69 => kernel_rfl
                          case s2_u69 => kernel_rfl
                          case s3_u69 => kernel_rfl
                          case s4_u69 => exact fun _ _ _ h => h
                          case s5_u69 => exact Or.inl ⟨rfl, by intro w hSw; (try dsimp only at hSw); go_simp; try with_reducible rfl⟩
                          case s6_u69 => assumption
                          try simp only [Act.put, List.setIfInBounds_toArray, List.set_cons_zero, List.set_cons_succ]
                          with_reducible refine takeI2 (i := 8) (v := ?sv_u70) (oi := ?s0_u70) (by simp only [List.getElem?_toArray, List.getElem?_cons_succ, List.getElem?_cons_zero]; exact rfl) ?s1_u70 ?s2_u70 ?s3_u70 ?s4_u70 ?s5_u70 ?s6_u70 ?s7_u70
                          case s1_u70 => kernel_rfl
                          case s2_u70 => kernel_rfl
                          case s3_u70 => kernel_rfl
                          case s4_u70 => exact fun _ _ _ h => h
                          case s5_u70 => exact Or.inl ⟨rfl, by intro w hSw; (try dsimp only at hSw); go_simp; try with_reducible rfl⟩
                          case s6_u70 => assumption
                          try simp only [Act.put, List.setIfInBounds_toArray, List.set_cons_zero, List.set_cons_succ]
                          with_reducible refine wpAnyH_ready (rs := [9]) ?s1_u71 one_ne ?s2_u71
                          case s1_u71 => kernel_rfl
                          with_reducible refine AllReadyH.cons (o := ?s0_u71) (by simp only [List.getElem?_toArray, List.getElem?_cons_succ, List.getElem?_cons_zero]; exact rfl) (fun K hK => ?s3_u71) AllReadyH.nil
                          go_simp
                          refine (HSB.out _).mono ?_
                          rintro e wd1 ⟨rfl, hb⟩
                          replace hro2 := hro2.below hb
                          replace hD := bvia hD hb
                          clear hb
                          go_wp2_with fail
                          with_reducible refine hK.out _ _ ?s1_u72 (fun hHeld => ?s2_u72)
                          case s1_u72 => (try dsimp only); exact ⟨rdSpot_cell hro2 HXY.out.1, rdSpot_cell hro2 HXY.out.2⟩
                          clear hK K
                          try simp only [Act.put, List.setIfInBounds_toArray, List.set_cons_zero, List.set_cons_succ]
                          with_reducible refine takeI2 (i := 10) (v := ?sv_u73) (oi := ?s0_u73) (by simp only [List.getElem?_toArray, List.getElem?_cons_succ, List.getElem?_cons_zero]; exact rfl) ?s1_u73 ?s2_u73 ?s3_u73 ?s4_u73 ?s5_u73 ?s6_u73 ?s7_u73
                          case s1_u73 => kernel_rfl
                          case s2_u73 => kernel_rfl
                          case s3_u73 => kernel_rfl
                          case s4_u73 => exact fun _ _ _ h => h
                          case s5_u73 => exact Or.inl ⟨rfl, by intro w hSw; (try dsimp only at hSw); go_simp; try with_reducible rfl⟩
                          case s6_u73 => assumption
                          try simp only [Act.put, List.setIfInBounds_toArray, List.set_cons_zero, List.set_cons_succ]
                          with_reducible refine wpAnyH_ready (rs := [11]) ?s1_u74 one_ne ?s2_u74
                          case s1_u74 => kernel_rfl
                          with_reducible refine AllReadyH.cons (o := ?s0_u74) (by simp only [List.getElem?_toArray, List.getElem?_cons_succ, List.getElem?_cons_zero]; exact rfl) (fun K hK => ?s3_u74) AllReadyH.nil
                          go_simp
                          refine (HBT.out _).mono ?_
                          rintro e wd2 ⟨rfl, rfl⟩
                          go_wp2_with fail
                          with_reducible refine hK.out _ _ ?s1_u75 (fun hHeld => ?s2_u75)
                          case s1_u75 => (try dsimp only); exact ⟨rdSpot_cell hro2 HXY.out.1, rdSpot_cell hro2 HXY.out.2⟩
                          clear hK K
                          try simp only [Act.put, List.setIfInBounds_toArray, List.set_cons_zero, List.set_cons_succ]
                          with_reducible refine takeI2 (i := 12) (v := ?sv_u76) (oi := ?s0_u76) (by simp only [List.getElem?_toArray, List.getElem?_cons_succ, List.getElem?_cons_zero]; exact rfl) ?s1_u76 ?s2_u76 ?s3_u76 ?s4_u76 ?s5_u76 ?s6_u76 ?s7_u76
                          case s1_u76 => kernel_rfl
                          case s2_u76 => kernel_rfl
                          case s3_u76 => kernel_rfl
                          case s4_u76 => exact fun _ _ _ h => h
                          case s5_u76 => exact Or.inl ⟨rfl, by intro w hSw; (try dsimp only at hSw); go_simp; try with_reducible rfl⟩
                          case s6_u76 => assumption
                          try simp only [Act.put, List.setIfInBounds_toArray, List.set_cons_zero, List.set_cons_succ]
                          with_reducible refine takeI2 (i := 13) (v := ?sv_u77) (oi := ?s0_u77) (by simp only [List.getElem?_toArray, List.getElem?_cons_succ, List.getElem?_cons_zero]; exact rfl) ?s1_u77 ?s2_u77 ?s3_u77 ?s4_u77 ?s5_u77 ?s6_u77 ?s7_u77
                          case s1_u77 => kernel_rfl
                          case s2_u77 => kernel_rfl
                          case s3_u77 => kernel_rfl
                          case s4_u77 => exact fun _ _ _ h => h
                          case s5_u77 => exact Or.inl ⟨rfl, by intro w hSw; (try dsimp only at hSw); go_simp; try with_reducible rfl⟩
                          case s6_u77 => assumption
                          try simp only [Act.put, List.setIfInBounds_toArray, List.set_cons_zero, List.set_cons_succ]
                          with_reducible refine wpAnyH_done ?s1_u78 ?s2_u78 _
                          case s1_u78 => kernel_rfl
                          go_wp2_with (fail)
                          exact ⟨⟨k + 1, p + fv, by omega, by omega, by go_num, by go_num, hD, HSTEP.out⟩, by simp [intOf]; omega⟩
                        · have HP2 : Hid (p + (pairsF zs 1 (j + 1) (zs.length - (j + 1))).length = cn) := by
                            show _ = _
                            have := HP.out
                            rw [rowF_over zs 1 j (by omega)] at this
                            simpa using this
                          clear HP
                          go_wp2_with (fail)
                          exact ⟨⟨j + 1, p, by omega, rfl, by go_num, hD, HP2.out⟩, by simp [intOf]; omega⟩
                    · have hpc : p = cn := by
                        have := HP.out
                        rw [pairsF_end zs 1 (by omega)] at this
                        simpa using this
                      subst hpc
                      clear HP
                      have HB2 := Lib.hid (bvia hB hD)
                      have hro2 := hro.below hD
                      go_wp2_with (fail)
                      refine (implSpotsOk_any wd ht zs _ _ hro2).mono ?_
                      rintro e we ⟨rfl, hb⟩
                      rw [HZ.out]
                      go_wp2_with (fail)
                      go_returns
                      exact ⟨rfl, bvia HB2.out hb⟩
              | false =>
                go_wp2_with (fail)
                go_loopw [13, 14] (fun a i wr => a = .bool false ∧ i = .int .i64 0 ∧ w9 = wr) (fun _ i _ => (1 - intOf i).toNat)
                case atStart => exact ⟨rfl, rfl, rfl⟩
                case round =>
                 focus
                  obtain ⟨rfl, rfl, rfl⟩ := hrel
                  go_wp2_with (fail)
                  refine (implCloseEnough_any zs 1 _ _ hro).mono ?_
                  rintro e wc ⟨uc, rfl, oc, hb⟩
                  replace hro := hro.below hb
                  replace hB := bvia hB hb
                  clear hb
                  obtain ⟨ac, cc, rfl⟩ := oc.rd.shape
                  clear oc
                  have hcn49 := (closeF_len zs 1).1
                  have HCL : Hid (closeF zs 1 = pairsF zs 1 0 (zs.length - 0)) := by show _ = _; rw [Nat.sub_zero]; exact if_pos hl7
                  have HC0 : Hid (0 + (pairsF zs 1 0 (zs.length - 0)).length = (closeF zs 1).length) := by show _ = _; rw [HCL.out]; omega
                  generalize (closeF zs 1).length = cn at hcn49 HC0 ⊢
                  clear HCL
                  go_wp2_with (fail)
                  go_loopw [18, 19] (fun a i wr => ∃ (j p : Nat), j ≤ zs.length ∧ a = .int .i64 p ∧ i = .int .i64 j ∧ Below wc.heap.size wc wr ∧ Hid (p + (pairsF zs 1 j (zs.length - j)).length = cn)) (fun _ i _ => zs.length - (intOf i).toNat)
                  case atStart => exact ⟨0, 0, Nat.zero_le _, rfl, rfl, Below.refl _ _, HC0.out⟩
                  case round =>
                   focus
                    clear HC0
                    obtain ⟨j, p, hj, rfl, rfl, hD, HP⟩ := hrel
                    by_cases hlt : j < zs.length
                    · have HP1 : Hid (p + ((rowF zs 1 j (j + 1) (zs.length - (j + 1))).length + (pairsF zs 1 (j + 1) (zs.length - (j + 1))).length) = cn) := by
                        show _ = _
                        rw [← HP.out, pairsF_step zs 1 hlt, List.length_append]
                      obtain ⟨wo, hwo⟩ : ∃ wo : World, wo = wr := ⟨_, rfl⟩
                      subst hwo
                      clear HP
                      go_wp2_with (fail)
                      go_loopw [18, 20] (fun a i wr => ∃ (k p : Nat), j + 1 ≤ k ∧ k ≤ zs.length ∧ a = .int .i64 p ∧ i = .int .i64 k ∧ Below wc.heap.size wc wr ∧ Hid (p + ((rowF zs 1 j k (zs.length - k)).length + (pairsF zs 1 (j + 1) (zs.length - (j + 1))).length) = cn)) (fun _ i _ => zs.length - (intOf i).toNat)
                      case atStart => exact ⟨j + 1, p, Nat.le_refl _, hlt, rfl, by go_num, hD, HP1.out⟩
                      case round =>
                       focus
                        clear HP1 hD
                        obtain ⟨k, p, hjk, hk, rfl, rfl, hD, HP⟩ := hrel
                        have hpc : p ≤ 49 := by
                          have := HP.out
                          omega
                        by_cases hkl : k < zs.length
                        · obtain ⟨⟨x0, x1⟩, hx⟩ : ∃ x, zs[j]? = some x := ⟨_, List.getElem?_eq_getElem hlt⟩
                          obtain ⟨⟨y0, y1⟩, hy⟩ : ∃ x, zs[k]? = some x := ⟨_, List.getElem?_eq_getElem hkl⟩
                          have hgx : zs.getD j (0, 0) = (x0, x1) := by rw [List.getD_eq_getElem?_getD, hx]; rfl
                          have hgy : zs.getD k (0, 0) = (y0, y1) := by rw [List.getD_eq_getElem?_getD, hy]; rfl
                          have hn0 : stepsAt zs j k = stepsBetween x0 x1 y0 y1 := by rw [stepsAt, hgx, hgy]
                          have hge0 := stepsAt_ge HZ.out hlt hkl
                          have hstep := HP.out
                          rw [rowF_step zs 1 j hkl, nearB, hn0, List.length_append] at hstep
                          rw [hn0] at hge0
                          have HSB := Lib.hid (fun u => implStepsBetween_any x0 x1 y0 y1 u)
                          generalize stepsBetween x0 x1 y0 y1 = sb at hge0 hstep HSB
                          rw [decide_eq_true hge0, Bool.true_and] at hstep
                          obtain ⟨bv, hbv⟩ : ∃ bv : Bool, decide (sb ≤ 1) = bv := ⟨_, rfl⟩
                          rw [hbv] at hstep
                          obtain ⟨cx0, cx1⟩ := rdSpot_cell (hro.below hD) hx
                          obtain ⟨cy0, cy1⟩ := rdSpot_cell (hro.below hD) hy
                          have qj : (j : Int) < (zs.length : Int) := by omega
                          have qk : (k : Int) < (zs.length : Int) := by omega
                          obtain ⟨fv, hfv⟩ : ∃ fv : Nat, (if bv = true then 1 else 0) = fv := ⟨_, rfl⟩
                          have HSTEP : Hid (p + fv + ((rowF zs 1 j (k + 1) (zs.length - (k + 1))).length + (pairsF zs 1 (j + 1) (zs.length - (j + 1))).length) = cn) := by
                            show _ = _
                            rw [← hfv]
                            cases bv with
                            | true =>
                              simp only [if_true, List.length_cons, List.length_nil] at hstep ⊢
                              omega
                            | false =>
                              simp at hstep ⊢
                              omega
                          have hfv1 : fv ≤ 1 := by
                            rw [← hfv]
                            split <;> omega
                          have HBT : Hid (∀ w, Calls Try.prog 40 #[.bool bv] w fun e w' => e = .returned (.int .i64 (fv : Int)) ∧ w = w') := fun w => by
                            have h := btoi_any bv w
                            rw [show (if bv = true then (1 : Int) else 0) = (fv : Int) by rw [← hfv]; cases bv <;> rfl] at h
                            exact h
                          clear hfv
                          have hpf : IntKind.i64.wrap ((p : Int) + (fv : Int)) = ((p + fv : Nat) : Int) := by rw [Int.natCast_add]; exact IntWalk.i64_in _ (by omega)
                          have HXY := Lib.hid (And.intro hx hy)
                          clear hx hy hgx hgy hn0 hge0 hstep HP cx0 cx1 cy0 cy1
                          go_wp2_with (fail)
                          have hro2 := (hro.below hD).drew
                          replace hD := hD.drew
                          with_reducible refine region_beg (n := 14) (S := (fun w' => (w'.cell? ⟨gl, j * 2, none⟩ = some (.int .i64 x0) ∧ w'.cell? ⟨gl, j * 2 + 1, none⟩ = some (.int .i64 x1)) ∧ w'.cell? ⟨gl, k * 2, none⟩ = some (.int .i64 y0) ∧ w'.cell? ⟨gl, k * 2 + 1, none⟩ = some (.int .i64 y1))) ?b1_u79 ?b2_u79 ?b3_u79 (fun hHeld => ?b4_u79)
                          case b1_u79 => kernel_rfl
                          case b2_u79 => kernel_rfl
                          case b3_u79 => (try dsimp only); exact ⟨rdSpot_cell hro2 HXY.out.1, rdSpot_cell hro2 HXY.out.2⟩
                          with_reducible refine takeI2 (i := 0) (v := ?sv_u80) (oi := ?s0_u80) (by simp only [List.getElem?_toArray, List.getElem?_cons_succ, List.getElem?_cons_zero]; exact rfl) ?s1_u80 ?s2_u80 ?s3_u80 ?s4_u80 ?s5_u80 ?s6_u80 ?s7_u80
                          case s1_u80 => kernel_rfl
                          case s2_u80 => kernel_rfl
                          case s3_u80 => kernel_rfl
                          case s4_u80 => exact fun _ _ _ h => h
                          case s5_u80 => exact Or.inl ⟨rfl, by intro w hSw; (try dsimp only at hSw); go_simp; try with_reducible rfl⟩
                          case s6_u80 => assumption
                          try simp only [Act.put, List.setIfInBounds_toArray, List.set_cons_zero, List.set_cons_succ]
                          with_reducible refine takeI2 (i := 1) (v := ?sv_u81) (oi := ?s0_u81) (by simp only [List.getElem?_toArray, List.getElem?_cons_succ, List.getElem?_cons_zero]; exact rfl) ?s1_u81 ?s2_u81 ?s3_u81 ?s4_u81 ?s5_u81 ?s6_u81 ?s7_u81
                          case s1_u81 => kernel_rfl
                          case s2_u81 => kernel_rfl
                          case s3_u81 => kernel_rfl
                          case s4_u81 => exact fun _ _ _ h => h
                          case s5_u81 => exact Or.inl ⟨rfl, by intro w hSw; (try dsimp only at hSw); go_simp; try with_reducible rfl⟩
                          case s6_u81 => assumption
                          try simp only [Act.put, List.setIfInBounds_toArray, List.set_cons_zero, List.set_cons_succ]
                          with_reducible refine takeI2 (i := 2) (v := ?sv_u82) (oi := ?s0_u82) (by simp only [List.getElem?_toArray, List.getElem?_cons_succ, List.getElem?_cons_zero]; exact rfl) ?s1_u82 ?s2_u82 ?s3_u82 ?s4_u82 ?s5_u82 ?s6_u82 ?s7_u82
                          case s1_u82 => kernel_rfl
                          case s2_u82 => kernel_rfl
                          case s3_u82 => kernel_rfl
                          case s4_u82 => exact fun _ _ _ h => h
                          case s5_u82 => exact Or.inl ⟨rfl, by intro w hSw; (try dsimp only at hSw); go_simp; try with_reducible rfl⟩
                          case s6_u82 => assumption
                          try simp only [Act.put, List.setIfInBounds_toArray, List.set_cons_zero, List.set_cons_succ]
                          with_reducible refine takeI2 (i := 3) (v := ?sv_u83) (oi := ?s0_u83) (by simp only [List.getElem?_toArray, List.getElem?_cons_succ, List.getElem?_cons_zero]; exact rfl) ?s1_u83 ?s2_u83 ?s3_u83 ?s4_u83 ?s5_u83 ?s6_u83 ?s7_u83
                          case s1_u83 => kernel_rfl
                          case s2_u83 => kernel_rfl
                          case s3_u83 => kernel_rfl
                          case s4_u83 => exact fun _ _ _ h => h
                          case s5_u83 => exact Or.inl ⟨rfl, by intro w hSw; (try dsimp only at hSw); go_simp; try with_reducible rfl⟩
                          case s6_u83 => assumption
                          try simp only [Act.put, List.setIfInBounds_toArray, List.set_cons_zero, List.set_cons_succ]
                          with_reducible refine takeI2 (i := 4) (v := ?sv_u84) (oi := ?s0_u84) (by simp only [List.getElem?_toArray, List.getElem?_cons_succ, List.getElem?_cons_zero]; exact rfl) ?s1_u84 ?s2_u84 ?s3_u84 ?s4_u84 ?s5_u84 ?s6_u84 ?s7_u84
                          case s1_u84 => kernel_rfl
                          case s2_u84 => kernel_rfl
                          case s3_u84 => kernel_rfl
                          case s4_u84 => exact fun _ _ _ h => h
                          case s5_u84 => exact Or.inl ⟨rfl, by intro w hSw; (try dsimp only at hSw); go_simp; try with_reducible rfl⟩
                          case s6_u84 => assumption
                          try simp only [Act.put, List.setIfInBounds_toArray, List.set_cons_zero, List.set_cons_succ]
                          with_reducible refine takeI2 (i := 5) (v := ?sv_u85) (oi := ?s0_u85) (by simp only [List.getElem?_toArray, List.getElem?_cons_succ, List.getElem?_cons_zero]; exact rfl) ?s1_u85 ?s2_u85 ?s3_u85 ?s4_u85 ?s5_u85 ?s6_u85 ?s7_u85
                          case s1_u85 => kernel_rfl
                          case s2_u85 => kernel_rfl
                          case s3_u85 => kernel_rfl
                          case s4_u85 => exact fun _ _ _ h => h
                          case s5_u85 => exact Or.inl ⟨rfl, by intro w hSw; (try dsimp only at hSw); go_simp; try with_reducible rfl⟩
                          case s6_u85 => assumption
                          try simp only [Act.put, List.setIfInBounds_toArray, List.set_cons_zero, List.set_cons_succ]
                          with_reducible refine takeI2 (i := 6) (v := ?sv_u86) (oi := ?s0_u86) (by simp only [List.getElem?_toArray, List.getElem?_cons_succ, List.getElem?_cons_zero]; exact rfl) ?s1_u86 ?s2_u86 ?s3_u86 ?s4_u86 ?s5_u86 ?s6_u86 ?s7_u86
                          case s1_u86 => kernel_rfl
                          case s2_u86 => kernel_rfl
                          case s3_u86 => kernel_rfl
                          case s4_u86 => exact fun _ _ _ h => h
                          case s5_u86 => exact Or.inl ⟨rfl, by intro w hSw; (try dsimp only at hSw); go_simp; try with_reducible rfl⟩
                          case s6_u86 => assumption
                          try simp only [Act.put, List.setIfInBounds_toArray, List.set_cons_zero, List.set_cons_succ]
                          with_reducible refine takeI2 (i := 7) (v := ?sv_u87) (oi := ?s0_u87) (by simp only [List.getElem?_toArray, List.getElem?_cons_succ, List.getElem?_cons_zero]; exact rfl) ?s1_u87 ?s2_u87 ?s3_u87 ?s4_u87 ?s5_u87 ?s6_u87 ?s7_u87
                          case s1_u87 => kernel_rfl
                          case s2_u87 => kernel_rfl
                          case s3_u87 => kernel_rfl
                          case s4_u87 => exact fun _ _ _ h => h
                          case s5_u87 => exact Or.inl ⟨rfl, by intro w hSw; (try dsimp only at hSw); go_simp; try with_reducible rfl⟩
                          case s6_u87 => assumption
                          try simp only [Act.put, List.setIfInBounds_toArray, List.set_cons_zero, List.set_cons_succ]
                          with_reducible refine takeI2 (i := 8) (v := ?sv_u88) (oi := ?s0_u88) (by simp only [List.getElem?_toArray, List.getElem?_cons_succ, List.getElem?_cons_zero]; exact rfl) ?s1_u88 ?s2_u88 ?s3_u88 ?s4_u88 ?s5_u88 ?s6_u88 ?s7_u88
                          case s1_u88 => kernel_rfl
                          case s2_u88 => kernel_rfl
                          case s3_u88 => kernel_rfl
                          case s4_u88 => exact fun _ _ _ h => h
                          case s5_u88 => exact Or.inl ⟨rfl, by intro w hSw; (try dsimp only at hSw); go_simp; try with_reducible rfl⟩
                          case s6_u88 => assumption
                          try simp only [Act.put, List.setIfInBounds_toArray, List.set_cons_zero, List.set_cons_succ]
                          with_reducible refine wpAnyH_ready (rs := [9]) ?s1_u89 one_ne ?s2_u89
                          case s1_u89 => kernel_rfl
                          with_reducible refine AllReadyH.cons (o := ?s0_u89) (by simp only [List.getElem?_toArray, List.getElem?_cons_succ, List.getElem?_cons_zero]; exact rfl) (fun K hK => ?s3_u89) AllReadyH.nil
                          go_simp
                          refine (HSB.out _).mono ?_
                          rintro e wd1 ⟨rfl, hb⟩
                          replace hro2 := hro2.below hb
                          replace hD := bvia hD hb
                          clear hb
                          go_wp2_with fail
                          with_reducible refine hK.out _ _ ?s1_u90 (fun hHeld => ?s2_u90)
                          case s1_u90 => (try dsimp only); exact ⟨rdSpot_cell hro2 HXY.out.1, rdSpot_cell hro2 HXY.out.2⟩
                          clear hK K
                          try simp only [Act.put, List.setIfInBounds_toArray, List.set_cons_zero, List.set_cons_succ]
                          with_reducible refine takeI2 (i := 10) (v := ?sv_u91) (oi := ?s0_u91) (by simp only [List.getElem?_toArray, List.getElem?_cons_succ, List.getElem?_cons_zero]; exact rfl) ?s1_u91 ?s2_u91 ?s3_u91 ?s4_u91 ?s5_u91 ?s6_u91 ?s7_u91
                          case s1_u91 => kernel_rfl
                          case s2_u91 => kernel_rfl
                          case s3_u91 => kernel_rfl
                          case s4_u91 => exact fun _ _ _ h => h
                          case s5_u91 => exact Or.inl ⟨rfl, by intro w hSw; (try dsimp only at hSw); go_simp; try with_reducible rfl⟩
                          case s6_u91 => assumption
                          try simp only [Act.put, List.setIfInBounds_toArray, List.set_cons_zero, List.set_cons_succ]
                          with_reducible refine wpAnyH_ready (rs := [11]) ?s1_u92 one_ne ?s2_u92
                          case s1_u92 => kernel_rfl
                          with_reducible refine AllReadyH.cons (o := ?s0_u92) (by simp only [List.getElem?_toArray, List.getElem?_cons_succ, List.getElem?_cons_zero]; exact rfl) (fun K hK => ?s3_u92) AllReadyH.nil
                          go_simp
                          refine (HBT.out _).mono ?_
                          rintro e wd2 ⟨rfl, rfl⟩
                          go_wp2_with fail
                          with_reducible refine hK.out _ _ ?s1_u93 (fun hHeld => ?s2_u93)
                          case s1_u93 => (try dsimp only); exact ⟨rdSpot_cell hro2 HXY.out.1, rdSpot_cell hro2 HXY.out.2⟩
                          clear hK K
                          try simp only [Act.put, List.setIfInBounds_toArray, List.set_cons_zero, List.set_cons_succ]
                          with_reducible refine takeI2 (i := 12) (v := ?sv_u94) (oi := ?s0_u94) (by simp only [List.getElem?_toArray, List.getElem?_cons_succ, List.getElem?_cons_zero]; exact rfl) ?s1_u94 ?s2_u94 ?s3_u94 ?s4_u94 ?s5_u94 ?s6_u94 ?s7_u94
                          case s1_u94 => kernel_rfl
                          case s2_u94 => kernel_rfl
                          case s3_u94 => kernel_rfl
                          case s4_u94 => exact fun _ _ _ h => h
                          case s5_u94 => exact Or.inl ⟨rfl, by intro w hSw; (try dsimp only at hSw); go_simp; try with_reducible rfl⟩
                          case s6_u94 => assumption
                          try simp only [Act.put, List.setIfInBounds_toArray, List.set_cons_zero, List.set_cons_succ]
                          with_reducible refine takeI2 (i := 13) (v := ?sv_u95) (oi := ?s0_u95) (by simp only [List.getElem?_toArray, List.getElem?_cons_succ, List.getElem?_cons_zero]; exact rfl) ?s1_u95 ?s2_u95 ?s3_u95 ?s4_u95 ?s5_u95 ?s6_u95 ?s7_u95
                          case s1_u95 => kernel_rfl
                          case s2_u95 => kernel_rfl
                          case s3_u95 => kernel_rfl
                          case s4_u95 => exact fun _ _ _ h => h
                          case s5_u95 => exact Or.inl ⟨rfl, by intro w hSw; (try dsimp only at hSw); go_simp; try with_reducible rfl⟩
                          case s6_u95 => assumption
                          try simp only [Act.put, List.setIfInBounds_toArray, List.set_cons_zero, List.set_cons_succ]
                          with_reducible refine wpAnyH_done ?s1_u96 ?s2_u96 _
                          case s1_u96 => kernel_rfl
                          go_wp2_with (fail)
                          exact ⟨⟨k + 1, p + fv, by omega, by omega, by go_num, by go_num, hD, HSTEP.out⟩, by simp [intOf]; omega⟩
                        · have HP2 : Hid (p + (pairsF zs 1 (j + 1) (zs.length - (j + 1))).length = cn) := by
                            show _ = _
                            have := HP.out
                            rw [rowF_over zs 1 j (by omega)] at this
                            simpa using this
                          clear HP
                          go_wp2_with (fail)
                          exact ⟨⟨j + 1, p, by omega, rfl, by go_num, hD, HP2.out⟩, by simp [intOf]; omega⟩
                    · have hpc : p = cn := by
                        have := HP.out
                        rw [pairsF_end zs 1 (by omega)] at this
                        simpa using this
                      subst hpc
                      clear HP
                      have HB2 := Lib.hid (bvia hB hD)
                      have hro2 := hro.below hD
                      go_wp2_with (fail)
                      refine (implSpotsOk_any wd ht zs _ _ hro2).mono ?_
                      rintro e we ⟨rfl, hb⟩
                      rw [HZ.out]
                      go_wp2_with (fail)
                      go_returns
                      exact ⟨rfl, bvia HB2.out hb⟩
  · have hbd : decide (1048576 < n) = true := decide_eq_true (by omega)
    go_enter Try.func9, Try.ntmps9
    go_wp2_with (fail)
    refine (big_any n _ _ _ hr).mono ?_
    rintro e w1 ⟨rfl, rfl⟩
    go_wp2_with (fail)
    go_returns
    exact ⟨rfl, Below.refl _ _⟩
end Go.Proofs.Ytcpkbohopicabaa
