/- FewestStrings of both. -/
import Derived.Test.YtfedhjfijcnpdaaBreakI
namespace Go.Proofs.Ytfedhjfijcnpdaa
open Go.ChangeShapes Go.WideShapes Go.ChangeAt Go.RowKit Go.Joins Tr
set_option linter.unusedSimpArgs false
set_option linter.unusedVariables false
set_option maxRecDepth 20000

theorem wp_join3 {P : Program} {c : Code} {Q : Exit → Act → World → Prop} {a : Act} {w : World} (A : Act → Value → Value → Nat → Act) (F : Value → Value → Nat → World → Prop)
    (hreg : c.wp P (fun e a' W => ∃ (x y : Value) (g : Nat), e = Exit.normal ∧ a' = A a x y g ∧ F x y g W) a w) (hcont : ∀ x y g W, F x y g W → Q .normal (A a x y g) W) : c.wp P Q a w :=
  Code.wp_mono (fun e a' W h => by
    obtain ⟨x, y, g, rfl, rfl, h⟩ := h
    exact hcont x y g W h) hreg
theorem panic_no3 {A : Value → Value → Nat → Act} {F : Value → Value → Nat → World → Prop} {R : Act → Act} : ∀ c (a : Act) (w : World), (∃ (x y : Value) (g : Nat), Exit.panic c = Exit.normal ∧ R a = A x y g ∧ F x y g w) →
    ∃ (x y : Value) (g : Nat), Exit.panic c = Exit.normal ∧ a = A x y g ∧ F x y g w := by
  rintro c a w ⟨_, _, _, h, _⟩
  cases h
theorem dis_push {w : World} {C : Nat} {u v v' : Value} {ys : List Int} (hn : OwI w C u ys) (hd : Dis u v) (hf : v'.ownBlock = v.ownBlock ∨ ∃ k, v'.ownBlock = some k ∧ w.heap.size ≤ k) : Dis u v' := by
  rcases hf with e | ⟨k, e, hk⟩
  · unfold Dis at hd ⊢
    rw [e]
    exact hd
  · rcases hx : u.ownBlock with _ | m
    · exact .inl hx
    · refine .inr fun h => ?_
      rw [hx, e] at h
      have := (hn.lt m hx).2
      simp at h
      omega
theorem BX.kept {w w' : World} {g : Nat} {J : Int} {u : Value} {row : Option Nat} (h : BX w g J u) (hg : w.grownBy w' row) (hn : some g ≠ row) : BX w' g J u := ⟨hg.cell h.1 hn, hg.cell h.2 hn⟩
theorem dis_ge {u : Value} {C g n c : Nat} (h : ∀ k, u.ownBlock = some k → C ≤ k) (hg : g < C) : Dis u (.slice (some ⟨g, 0, none⟩) n c) := by
  rcases hx : u.ownBlock with _ | m
  · exact .inl hx
  · refine .inr fun e => ?_
    rw [hx] at e
    have := h m hx
    simp [Value.ownBlock] at e
    omega
theorem dis_neg {u : Value} {g n c : Nat} (h : ∀ k, u.ownBlock = some k → k ≠ g) : Dis u (.slice (some ⟨g, 0, none⟩) n c) := by
  rcases hx : u.ownBlock with _ | m
  · exact .inl hx
  · refine .inr fun e => ?_
    rw [hx] at e
    have := h m hx
    simp [Value.ownBlock] at e
    exact this e
def BelW (w W : World) : Prop := Below w.heap.size w W
theorem now_len {J : Int} {zs : List LimbV} {ps : List Int} (h : pullsB J zs ps = true) (k : Nat) : ((nowK J zs ps k).length : Int) = J := (pulls_open (now_ok h k).1).2.1

set_option maxHeartbeats 4000000 in
theorem specFewestStrings_any (J : Int) (zs : List LimbV) (ps : List Int) (u v : Value) (w : World) (h : RdLimb w u zs) (h' : RdI w v ps) :
    Calls Try.prog 36 #[.agg #[.int .i64 J, u], v] w fun e w' => ∃ x, e = .returned x ∧ OwI w' w.heap.size x (fewL J zs ps) ∧ Below w.heap.size w w' := by
  obtain ⟨ad, cap, rfl⟩ := h.shape
  obtain ⟨ap, cp, rfl⟩ := h'.shape
  have hb0 := below_alloc1 w (.cells #[.int .i64 J, .slice ad zs.length cap] 26)
  have hx0 := BX.new w J (.slice ad zs.length cap)
  have hsa : (w.alloc (.cells #[.int .i64 J, .slice ad zs.length cap] 26)).heap.size = w.heap.size + 1 := by simp
  have hb1 := below_alloc1 (w.alloc (.cells #[.int .i64 J, .slice ad zs.length cap] 26)) (.cells #[] 3)
  have hsb : ((w.alloc (.cells #[.int .i64 J, .slice ad zs.length cap] 26)).alloc (.cells #[] 3)).heap.size = w.heap.size + 2 := by simp
  have ho := OwI.empty_at (w.alloc (.cells #[.int .i64 J, .slice ad zs.length cap] 26)) (w.heap.size + 1) (g := w.heap.size + 1) hsa.symm (by omega)
  have HS := Lib.hid (And.intro (bvia hb0 hb1) (And.intro (hx0.below hb1) (And.intro ((h.below hb0).below hb1) (And.intro ((h'.below hb0).below hb1) (And.intro hsb ho)))))
  have HP1 := Lib.hid (fun w' h h' => specPullsOk_any J zs ps (.slice ad zs.length cap) (.slice ap ps.length cp) w' h h')
  clear hb0 hx0 h h' hsa hsb hb1 ho
  go_enter Try.func36, Try.ntmps36
  go_wp2_with (fail)
  generalize (w.alloc (.cells #[.int .i64 J, .slice ad zs.length cap] 26)).alloc (.cells #[] 3) = w1 at HS ⊢
  obtain ⟨hB, hX, hR, hP, hs1, hO⟩ := HS.out
  clear HS
  obtain ⟨m0, m1⟩ := id hX
  go_wp2_with (fail)
  cases hp : pullsB J zs ps with
  | false =>
    have HE := Lib.hid (show fewL J zs ps = [] from if_neg (by simp [hp]))
    rw [hp] at HP1
    refine (HP1.out _ hR hP).mono ?_
    rintro e wk23 ⟨rfl, hb⟩
    replace hX := hX.below hb
    replace hR := hR.below hb
    replace hP := hP.below hb
    replace hO := hO.below hb
    replace hB := bvia hB hb
    clear m0 m1 hb
    obtain ⟨m0, m1⟩ := id hX
    go_wp2_with (fail)
    go_ret
    exact ⟨_, rfl, by rw [HE.out]; exact hO.base (by omega), hB⟩
  | true =>
    rw [hp] at HP1
    obtain ⟨N, rfl⟩ : ∃ N : Nat, J = N := by
      obtain ⟨N, h, _⟩ := body_tree (pulls_open hp).1
      exact ⟨N, h⟩
    have hN := (pulls_facts hp).1
    have HPL := Lib.hid (pulls_facts hp).2.2.1
    have HNO := Lib.hid (fun k => now_ok hp k)
    have HNL := Lib.hid (fun k => now_len hp k)
    have HFW : Hid (fewL N zs ps = idxL (nowK N zs ps N) N) := by
      show _ = _
      unfold fewL
      rw [if_pos hp, Int.toNat_natCast]
    clear hp
    refine (HP1.out _ hR hP).mono ?_
    rintro e w2 ⟨rfl, hb⟩
    have hsz2 := hb.size
    replace hX := hX.below hb
    replace hR := hR.below hb
    replace hP := hP.below hb
    replace hO := hO.below hb
    have HB1 := Lib.hid (bvia hB hb)
    have HX := Lib.hid (And.intro hX (And.intro hR hO))
    have hBe := below_alloc1 w2 (.cells #[] 3)
    have hPe := hP.below hBe
    have hOe := OwI.empty w2 w2.heap.size (Nat.le_refl _)
    have hl12 : ps.length ≤ 12 := by have := HPL.out; omega
    clear hb hB m0 m1 hX hR hP hO
    go_wp2_with (at_builtin; refine wpList_appI rfl (.tmp 16) (.tmp 17) rfl _ w2.heap.size _ [] rfl hOe _ ps rfl hPe (by simp <;> omega) (by simp) ?_; intro v1 w4 o1 hgr _; simp only [List.nil_append] at o1; have hB := hOe.grown_below hBe (Nat.le_refl _) hgr; clear hgr)
    replace o1 := o1.base (show w.heap.size + 2 ≤ w2.heap.size by omega)
    clear hOe hPe hBe
    go_loopw [6, 7] (fun v k wr => ∃ q : Nat, q ≤ N ∧ k = .int .i64 q ∧ OwI wr (w.heap.size + 2) v (nowK N zs ps q) ∧ Below w2.heap.size w2 wr) (fun _ k _ => N - (intOf k).toNat)
    case atStart => exact ⟨0, Nat.zero_le _, rfl, o1, hB⟩
    case round =>
     focus
      clear o1 hB
      obtain ⟨q, hq, rfl, o1, hB⟩ := hrel
      have hX := HX.out.1.below hB
      have hR := HX.out.2.1.below hB
      obtain ⟨m0, m1⟩ := id hX
      by_cases hlt : q < N
      · have qlt : (q : Int) < (N : Int) := by omega
        have hls := HNL.out q
        have HN1 := Lib.hid (fun h h2 => now_hit (J := N) (zs := zs) (ps := ps) (k := q) h h2)
        have HN2 := Lib.hid (fun h => now_miss (J := N) (zs := zs) (ps := ps) (k := q) h)
        have hpo := (HNO.out q).1
        generalize nowK N zs ps q = ls at o1 hls HN1 HN2 hpo
        generalize hne : nowK N zs ps (q + 1) = ls2 at HN1 HN2
        replace hne := Lib.hid hne
        have hqk : q < ls.length := by omega
        have qk : (q : Int) < (ls.length : Int) := by omega
        have HLS := Lib.hid hls
        have HWO := Lib.hid (fun v w' h => specWithoutString_any ls q (by have := HLS.out; omega) v w' h)
        rw [show withoutString ls q = ls.set q (-1) by unfold withoutString; rw [if_pos (inB_true.2 (by omega)), Int.toNat_natCast]] at HWO
        have HHS := Lib.hid (fun v v' w' h h' h'' => specHangsSame_any N zs ls (ls.set q (-1)) (.slice ad zs.length cap) v v' w' h h' h'')
        have hpb := pf_bd (pulls_open hpo).2.2.1 q
        obtain ⟨a1, c1, rfl⟩ := o1.rd.shape
        obtain ⟨bl, ol, rfl, c0⟩ := o1.rd.cellP hqk
        generalize hpe : pf ls q = p at c0 hpb HN1 HN2
        generalize hangsB N zs ls (ls.set q (-1)) = hb1 at HHS HN1 HN2
        generalize ls.set q (-1) = os at HWO HHS HN1 HN2
        have hws := hB.size
        clear hpe hls hpo hqk
        go_wp2_with (fail)
        refine (HWO.out _ _ o1.rd).mono ?_
        rintro e w5 ⟨x, rfl, ox, hb⟩
        replace o1 := o1.below hb
        replace c0 := cell_on hb c0
        replace hX := hX.below hb
        replace hR := hR.below hb
        replace hB := bvia hB hb
        clear hb m0 m1
        obtain ⟨m0, m1⟩ := id hX
        by_cases h0 : 0 ≤ p
        · cases hb1 with
          | true =>
            have HE := Lib.hid (HN1.out h0 rfl)
            go_wp2_with (fail)
            refine (HHS.out _ _ _ hR o1.rd ox.rd).mono ?_
            rintro e w6 ⟨rfl, hb⟩
            replace ox := (ox.below hb).base (show w.heap.size + 2 ≤ wr.heap.size by omega)
            replace hB := bvia hB hb
            clear hb m0 m1 o1 c0 hX hR
            go_wp2_with (fail)
            exact ⟨⟨q + 1, by omega, by go_num, by rw [hne.out, HE.out]; exact ox, hB⟩, by simp [intOf]; omega⟩
          | false =>
            have HE := Lib.hid (HN2.out (fun h => by cases h.2))
            go_wp2_with (fail)
            refine (HHS.out _ _ _ hR o1.rd ox.rd).mono ?_
            rintro e w6 ⟨rfl, hb⟩
            replace o1 := o1.below hb
            replace hB := bvia hB hb
            clear hb m0 m1 ox c0 hX hR
            go_wp2_with (fail)
            exact ⟨⟨q + 1, by omega, by go_num, by rw [hne.out, HE.out]; exact o1, hB⟩, by simp [intOf]; omega⟩
        · have HE := Lib.hid (HN2.out (fun h => h0 h.1))
          go_wp2_with (fail)
          exact ⟨⟨q + 1, by omega, by go_num, by rw [hne.out, HE.out]; exact o1, hB⟩, by simp [intOf]; omega⟩
      · obtain rfl : q = N := by omega
        have hO := HX.out.2.2.below hB
        have HE2 := Lib.hid HFW.out
        have hls := HNL.out q
        generalize nowK q zs ps q = ls at o1 hls HE2
        obtain ⟨a1, c1, rfl⟩ := o1.rd.shape
        obtain ⟨bl, ol, rfl, _⟩ := o1.rd.cellP (k := 0) (by omega)
        have hdis := dis_ge (n := 0) (c := 0) (g := w.heap.size + 1) (u := .slice (some ⟨bl, ol, none⟩) ls.length c1) (fun k hk => (o1.lt k hk).1) (by omega)
        have hX := HX.out.1.below hB
        have hBW := bvia HB1.out hB
        have HLS := Lib.hid hls
        clear hR hls hB
        go_wp2_with (fail)
        clear m0 m1
        go_loopw [5, 9] (fun o k wr => ∃ j : Nat, j ≤ q ∧ k = .int .i64 j ∧ OwI wr (w.heap.size + 1) o (idxL ls j) ∧ OwI wr (w.heap.size + 2) (.slice (some ⟨bl, ol, none⟩) ls.length c1) ls ∧ Dis (.slice (some ⟨bl, ol, none⟩) ls.length c1) o ∧ BX wr w.heap.size q (.slice ad zs.length cap) ∧ Below w.heap.size w wr) (fun _ k _ => q - (intOf k).toNat)
        case atStart => exact ⟨0, Nat.zero_le _, rfl, hO, o1, hdis, hX, hBW⟩
        case round =>
         focus
          clear hO o1 hdis hX hBW
          obtain ⟨j, hj, rfl, hO, o1, hdis, hX, hB⟩ := hrel
          obtain ⟨m0, m1⟩ := id hX
          by_cases hjq : j < q
          · have hjl : j < ls.length := by have := HLS.out; omega
            have qj : (j : Int) < (q : Int) := by omega
            have qjl : (j : Int) < (ls.length : Int) := by omega
            obtain ⟨bl', ol', e1, c0⟩ := o1.rd.cellP hjl
            obtain ⟨rfl, rfl⟩ : bl = bl' ∧ ol = ol' := by simpa using e1
            have HI1 := Lib.hid (fun h => idx_hit (ps := ls) (k := j) h)
            have HI2 := Lib.hid (fun h => idx_miss (ps := ls) (k := j) h)
            have hil := idx_len ls j
            generalize hpe : pf ls j = p at c0 HI1 HI2
            generalize hix : idxL ls j = il at hO HI1 HI2 hil
            replace hix := Lib.hid hix
            clear hpe e1
            by_cases h0 : 0 ≤ p
            · have HE := Lib.hid (HI1.out h0)
              have hws := hB.size
              have hOl := hO.lt
              have hbs : w.heap.size + 1 ≤ wr.heap.size := by
                have := (o1.lt bl rfl).1
                have := (o1.lt bl rfl).2
                omega
              go_wp2_with (at_builtin; refine wpList_pushI rfl (.tmp 51) (.tmp 53) rfl _ _ (w.heap.size + 1) _ _ rfl hO rfl (by omega) (by omega) ?_; intro v2 w6 o2 hgr hfr; have hB2 := hO.grown_below hB (by omega) hgr; have o12 := o1.kept hgr hdis; have hd2 := dis_push o1 hdis hfr; have hX2 := hX.kept hgr (fun e => by have := (hOl _ e.symm).1; omega); clear hgr hfr)
              exact ⟨⟨j + 1, by omega, by go_num, by rw [HE.out]; exact o2, o12, hd2, hX2, hB2⟩, by simp [intOf]; omega⟩
            · have HE := Lib.hid (HI2.out (by omega))
              go_wp2_with (fail)
              exact ⟨⟨j + 1, by omega, by go_num, by rw [HE.out]; exact hO, o1, hdis, hX, hB⟩, by simp [intOf]; omega⟩
          · obtain rfl : j = q := by omega
            have HQ := Lib.hid (And.intro hO hB)
            clear hO hB
            go_wp2_with (fail)
            go_ret
            exact ⟨_, rfl, by rw [HE2.out]; exact HQ.out.1.base (by omega), HQ.out.2⟩

set_option maxRecDepth 40000 in
set_option maxHeartbeats 8000000 in
theorem implFewestStrings_any (J : Int) (zs : List LimbV) (ps : List Int) (u v : Value) (w : World) (h : RdLimb w u zs) (h' : RdI w v ps) :
    Calls Try.prog 13 #[.agg #[.int .i64 J, u], v] w fun e w' => ∃ x, e = .returned x ∧ OwI w' w.heap.size x (fewL J zs ps) ∧ Below w.heap.size w w' := by
  obtain ⟨ad, cap, rfl⟩ := h.shape
  obtain ⟨ap, cp, rfl⟩ := h'.shape
  have hb0 := below_alloc1 w (.cells #[.int .i64 J, .slice ad zs.length cap] 26)
  have hx0 := BX.new w J (.slice ad zs.length cap)
  have HS := Lib.hid (And.intro hb0 (And.intro hx0 (And.intro (h.below hb0) (h'.below hb0))))
  have HP1 := Lib.hid (fun w' h h' => implPullsOk_any J zs ps (.slice ad zs.length cap) (.slice ap ps.length cp) w' h h')
  clear hb0 hx0 h h'
  go_enter Try.func13, Try.ntmps13
  go_wp2_with (fail)
  generalize w.alloc (.cells #[.int .i64 J, .slice ad zs.length cap] 26) = w1 at HS ⊢
  obtain ⟨hB, hX, hR, hP⟩ := HS.out
  clear HS
  obtain ⟨m0, m1⟩ := id hX
  go_wp2_with (fail)
  cases hp : pullsB J zs ps with
  | false =>
    have HE := Lib.hid (show fewL J zs ps = [] from if_neg (by simp [hp]))
    rw [hp] at HP1
    refine (HP1.out _ hR hP).mono ?_
    rintro e wk24 ⟨rfl, hb⟩
    replace hX := hX.below hb
    replace hR := hR.below hb
    replace hP := hP.below hb
    replace hB := bvia hB hb
    clear m0 m1 hb
    obtain ⟨m0, m1⟩ := id hX
    go_wp2_with (fail)
    go_ret
    exact ⟨_, rfl, by rw [HE.out]; exact OwI.nil _ _, hB⟩
  | true =>
    rw [hp] at HP1
    obtain ⟨N, rfl⟩ : ∃ N : Nat, J = N := by
      obtain ⟨N, h, _⟩ := body_tree (pulls_open hp).1
      exact ⟨N, h⟩
    have hN := (pulls_facts hp).1
    have HPL := Lib.hid (pulls_facts hp).2.2.1
    have HNO := Lib.hid (fun k => now_ok hp k)
    have HNL := Lib.hid (fun k => now_len hp k)
    have HFW : Hid (fewL N zs ps = idxL (nowK N zs ps N) N) := by
      show _ = _
      unfold fewL
      rw [if_pos hp, Int.toNat_natCast]
    have HHP := Lib.hid (fun w' h h' => implHangPose_any N zs ps hp (.slice ad zs.length cap) (.slice ap ps.length cp) w' h h')
    have HCO := Lib.hid (fun w' h => copyOf_any ps (by have := HPL.out; omega) (.slice ap ps.length cp) w' h)
    have HHQ := Lib.hid (fun os hq v w' h h' => implHangPose_any N zs os hq (.slice ad zs.length cap) v w' h h')
    have HPK := Lib.hid hp
    clear hp
    have hl12 : ps.length ≤ 12 := by have := HPL.out; omega
    refine (HP1.out _ hR hP).mono ?_
    rintro e w3 ⟨rfl, hb⟩
    have hBW := Lib.hid (bvia hB hb)
    have HX3 := Lib.hid (And.intro (hX.below hb) (And.intro (hR.below hb) (hP.below hb)))
    replace hX := hX.below hb
    clear hb hB hR hP m0 m1
    obtain ⟨m0, m1⟩ := id hX
    go_wp2_with (fail)
    clear m0 m1 hX
    obtain ⟨B0, hB0⟩ : ∃ B, w3.heap.size = B := ⟨_, rfl⟩
    replace hB0 := Lib.hid hB0
    refine wp_join3 (fun a x y g => (((((((((a.put (some 16) (.slice ap ps.length cp)).put (some 17) x).put (some 18) (.agg #[.int .i64 N, .slice ad zs.length cap])).put (some 19) (.slice ap ps.length cp)).put (some 20) y).put (some 21) (.slice (some ⟨g, 0, none⟩) 0 0)).put (some 5) x).put (some 6) y).put (some 7) (.slice (some ⟨g, 0, none⟩) 0 0))) (fun x y g W => OwI W B0 x ps ∧ OwI W B0 y (poseL N zs ps) ∧ OwI W B0 (.slice (some ⟨g, 0, none⟩) 0 0) [] ∧ (∀ k, x.ownBlock = some k → k ≠ g) ∧ (∀ k, y.ownBlock = some k → k ≠ g) ∧ BelW w3 W) ?hreg ?hcont
    case hreg =>
      have hB3 := (Below.refl w3.heap.size w3).drew
      with_reducible refine region_beg (n := 9) (S := (fun w' => w'.cell? ⟨w.heap.size, 0, none⟩ = some (.int .i64 (N : Int)) ∧ w'.cell? ⟨w.heap.size, 1, none⟩ = some (.slice ad zs.length cap))) ?b1_u50 ?b2_u50 ?b3_u50 (fun hHeld => ?b4_u50)
      case b1_u50 => kernel_rfl
      case b2_u50 => kernel_rfl
      case b3_u50 => (try dsimp only); exact HX3.out.1.below hB3
      with_reducible refine takeI2 (i := 0) (v := ?sv_u51) (oi := ?s0_u51) (by simp only [List.getElem?_toArray, List.getElem?_cons_succ, List.getElem?_cons_zero]; exact rfl) ?s1_u51 ?s2_u51 ?s3_u51 ?s4_u51 ?s5_u51 ?s6_u51 ?s7_u51
      case s1_u51 => kernel_rfl
      case s2_u51 => kernel_rfl
      case s3_u51 => kernel_rfl
      case s4_u51 => exact panic_no3
      case s5_u51 => exact Or.inl ⟨rfl, by intro w hSw; (try dsimp only at hSw); go_simp; try with_reducible rfl⟩
      case s6_u51 => assumption
      try simp only [Act.put, List.setIfInBounds_toArray, List.set_cons_zero, List.set_cons_succ]
      with_reducible refine takeI2 (i := 2) (v := ?sv_u52) (oi := ?s0_u52) (by simp only [List.getElem?_toArray, List.getElem?_cons_succ, List.getElem?_cons_zero]; exact rfl) ?s1_u52 ?s2_u52 ?s3_u52 ?s4_u52 ?s5_u52 ?s6_u52 ?s7_u52
      case s1_u52 => kernel_rfl
      case s2_u52 => kernel_rfl
      case s3_u52 => kernel_rfl
      case s4_u52 => exact panic_no3
      case s5_u52 => exact Or.inl ⟨rfl, by intro w hSw; (try dsimp only at hSw); go_simp; try with_reducible rfl⟩
      case s6_u52 => assumption
      try simp only [Act.put, List.setIfInBounds_toArray, List.set_cons_zero, List.set_cons_succ]
      with_reducible refine takeI2 (i := 3) (v := ?sv_u53) (oi := ?s0_u53) (by simp only [List.getElem?_toArray, List.getElem?_cons_succ, List.getElem?_cons_zero]; exact rfl) ?s1_u53 ?s2_u53 ?s3_u53 ?s4_u53 ?s5_u53 ?s6_u53 ?s7_u53
      case s1_u53 => kernel_rfl
      case s2_u53 => kernel_rfl
      case s3_u53 => kernel_rfl
      case s4_u53 => exact panic_no3
      case s5_u53 => exact Or.inl ⟨rfl, by intro w hSw; (try dsimp only at hSw); go_simp; try with_reducible rfl⟩
      case s6_u53 => assumption
      try simp only [Act.put, List.setIfInBounds_toArray, List.set_cons_zero, List.set_cons_succ]
      with_reducible refine wpAnyH_ready (rs := [1, 5]) ?s1_u54 (List.cons_ne_nil _ _) ?s2_u54
      case s1_u54 => kernel_rfl
      with_reducible refine AllReadyH.cons (o := ?b0_u54) (by simp only [List.getElem?_toArray, List.getElem?_cons_succ, List.getElem?_cons_zero]; exact rfl) ?b5_u54 (AllReadyH.cons (o := ?b1_u54) (by simp only [List.getElem?_toArray, List.getElem?_cons_succ, List.getElem?_cons_zero]; exact rfl) ?b6_u54 AllReadyH.nil)
      case b5_u54 =>
        intro K hK
        go_simp
        refine (HCO.out _ (HX3.out.2.2.below hB3)).mono ?_
        rintro e wa ⟨x, rfl, ox, hb⟩
        have ox3 := hB3.size
        replace ox := ox.base (show B0 ≤ _ by rw [← hB0.out]; exact ox3)
        clear ox3
        replace hB3 := bvia hB3 hb
        clear hb
        
        go_wp2_with fail
        with_reducible refine hK.out _ _ ?s1_u55 (fun hHeld => ?s2_u55)
        case s1_u55 => (try dsimp only); exact HX3.out.1.below hB3
        clear hK K
        try simp only [Act.put, List.setIfInBounds_toArray, List.set_cons_zero, List.set_cons_succ]
        with_reducible refine wpAnyH_ready (rs := [4, 5]) ?s1_u56 (List.cons_ne_nil _ _) ?s2_u56
        case s1_u56 => kernel_rfl
        with_reducible refine AllReadyH.cons (o := ?b0_u56) (by simp only [List.getElem?_toArray, List.getElem?_cons_succ, List.getElem?_cons_zero]; exact rfl) ?b5_u56 (AllReadyH.cons (o := ?b1_u56) (by simp only [List.getElem?_toArray, List.getElem?_cons_succ, List.getElem?_cons_zero]; exact rfl) ?b6_u56 AllReadyH.nil)
        case b5_u56 =>
          intro K hK
          go_simp
          refine (HHP.out _ (HX3.out.2.1.below hB3) (HX3.out.2.2.below hB3)).mono ?_
          rintro e wb ⟨y, rfl, oy, hb⟩
          replace ox := ox.below hb
          have oy3 := hB3.size
          replace oy := oy.base (show B0 ≤ _ by rw [← hB0.out]; exact oy3)
          clear oy3
          replace hB3 := bvia hB3 hb
          clear hb
          
          go_wp2_with fail
          with_reducible refine hK.out _ _ ?s1_u57 (fun hHeld => ?s2_u57)
          case s1_u57 => (try dsimp only); exact HX3.out.1.below hB3
          clear hK K
          try simp only [Act.put, List.setIfInBounds_toArray, List.set_cons_zero, List.set_cons_succ]
          with_reducible refine takeI2 (i := 6) (v := ?sv_u58) (oi := ?s0_u58) (by simp only [List.getElem?_toArray, List.getElem?_cons_succ, List.getElem?_cons_zero]; exact rfl) ?s1_u58 ?s2_u58 ?s3_u58 ?s4_u58 ?s5_u58 ?s6_u58 ?s7_u58
          case s1_u58 => kernel_rfl
          case s2_u58 => kernel_rfl
          case s3_u58 => kernel_rfl
          case s4_u58 => exact panic_no3
          case s5_u58 => exact Or.inl ⟨rfl, by intro w hSw; (try dsimp only at hSw); go_simp; try with_reducible rfl⟩
          case s6_u58 => assumption
          try simp only [Act.put, List.setIfInBounds_toArray, List.set_cons_zero, List.set_cons_succ]
          with_reducible refine takeI2 (i := 7) (v := ?sv_u59) (oi := ?s0_u59) (by simp only [List.getElem?_toArray, List.getElem?_cons_succ, List.getElem?_cons_zero]; exact rfl) ?s1_u59 ?s2_u59 ?s3_u59 ?s4_u59 ?s5_u59 ?s6_u59 ?s7_u59
          case s1_u59 => kernel_rfl
          case s2_u59 => kernel_rfl
          case s3_u59 => kernel_rfl
          case s4_u59 => exact panic_no3
          case s5_u59 => exact Or.inl ⟨rfl, by intro w hSw; (try dsimp only at hSw); go_simp; try with_reducible rfl⟩
          case s6_u59 => assumption
          try simp only [Act.put, List.setIfInBounds_toArray, List.set_cons_zero, List.set_cons_succ]
          with_reducible refine wpAnyH_ready (rs := [5]) ?s1_u60 (List.cons_ne_nil _ _) ?s2_u60
          case s1_u60 => kernel_rfl
          with_reducible refine AllReadyH.cons (o := ?b0_u60) (by simp only [List.getElem?_toArray, List.getElem?_cons_succ, List.getElem?_cons_zero]; exact rfl) ?b5_u60 AllReadyH.nil
          case b5_u60 =>
            intro K hK
            go_simp
            have hxq := fun k hk => (ox.lt k hk).2
            have hyq := fun k hk => (oy.lt k hk).2
            have hba := (below_alloc1 wb (.cells #[] 3))
            have og := (OwI.empty wb B0 (by rw [← hB0.out]; exact hB3.size))
            have hgs : w3.heap.size ≤ wb.heap.size := hB3.size
            replace ox := ox.below hba
            replace oy := oy.below hba
            replace hB3 := bvia hB3 hba
            clear hba
            generalize hgq : wb.heap.size = g at hxq hyq og ⊢
            have hxg : ∀ k, x.ownBlock = some k → k ≠ g := fun k hk => by
              have := hxq k hk
              omega
            have hyg : ∀ k, y.ownBlock = some k → k ≠ g := fun k hk => by
              have := hyq k hk
              omega
            clear hgq hgs hxq hyq
            
            with_reducible refine hK.out _ _ ?s1_u61 (fun hHeld => ?s2_u61)
            case s1_u61 => (try dsimp only); exact HX3.out.1.below hB3
            clear hK K
            try simp only [Act.put, List.setIfInBounds_toArray, List.set_cons_zero, List.set_cons_succ]
            with_reducible refine takeI2 (i := 8) (v := ?sv_u62) (oi := ?s0_u62) (by simp only [List.getElem?_toArray, List.getElem?_cons_succ, List.getElem?_cons_zero]; exact rfl) ?s1_u62 ?s2_u62 ?s3_u62 ?s4_u62 ?s5_u62 ?s6_u62 ?s7_u62
            case s1_u62 => kernel_rfl
            case s2_u62 => kernel_rfl
            case s3_u62 => kernel_rfl
            case s4_u62 => exact panic_no3
            case s5_u62 => exact Or.inl ⟨rfl, by intro w hSw; (try dsimp only at hSw); go_simp; try with_reducible rfl⟩
            case s6_u62 => assumption
            try simp only [Act.put, List.setIfInBounds_toArray, List.set_cons_zero, List.set_cons_succ]
            with_reducible refine wpAnyH_done ?s1_u63 ?s2_u63 _
            case s1_u63 => kernel_rfl
            exact ⟨x, y, g, rfl, by first | rfl | simp only [Act.put, List.setIfInBounds_toArray, List.set_cons_zero, List.set_cons_succ], ox, oy, og, hxg, hyg, hB3⟩
        case b6_u56 =>
          intro K hK
          go_simp
          have hxq := fun k hk => (ox.lt k hk).2
          have hba := (below_alloc1 wa (.cells #[] 3))
          have og := (OwI.empty wa B0 (by rw [← hB0.out]; exact hB3.size))
          have hgs : w3.heap.size ≤ wa.heap.size := hB3.size
          replace ox := ox.below hba
          replace hB3 := bvia hB3 hba
          clear hba
          generalize hgq : wa.heap.size = g at hxq og ⊢
          have hxg : ∀ k, x.ownBlock = some k → k ≠ g := fun k hk => by
            have := hxq k hk
            omega
          clear hgq hgs hxq
          
          with_reducible refine hK.out _ _ ?s1_u64 (fun hHeld => ?s2_u64)
          case s1_u64 => (try dsimp only); exact HX3.out.1.below hB3
          clear hK K
          try simp only [Act.put, List.setIfInBounds_toArray, List.set_cons_zero, List.set_cons_succ]
          with_reducible refine wpAnyH_ready (rs := [4]) ?s1_u65 (List.cons_ne_nil _ _) ?s2_u65
          case s1_u65 => kernel_rfl
          with_reducible refine AllReadyH.cons (o := ?b0_u65) (by simp only [List.getElem?_toArray, List.getElem?_cons_succ, List.getElem?_cons_zero]; exact rfl) ?b5_u65 AllReadyH.nil
          case b5_u65 =>
            intro K hK
            go_simp
            refine (HHP.out _ (HX3.out.2.1.below hB3) (HX3.out.2.2.below hB3)).mono ?_
            rintro e wb ⟨y, rfl, oy, hb⟩
            have hgz := (og.lt g rfl).2
            replace ox := ox.below hb
            replace og := og.below hb
            have hyg : ∀ k, y.ownBlock = some k → k ≠ g := fun k hk => by
              have h1 := (oy.lt k hk).1
              omega
            clear hgz
            have oy3 := hB3.size
            replace oy := oy.base (show B0 ≤ _ by rw [← hB0.out]; exact oy3)
            clear oy3
            replace hB3 := bvia hB3 hb
            clear hb
            
            go_wp2_with fail
            with_reducible refine hK.out _ _ ?s1_u66 (fun hHeld => ?s2_u66)
            case s1_u66 => (try dsimp only); exact HX3.out.1.below hB3
            clear hK K
            try simp only [Act.put, List.setIfInBounds_toArray, List.set_cons_zero, List.set_cons_succ]
            with_reducible refine takeI2 (i := 6) (v := ?sv_u67) (oi := ?s0_u67) (by simp only [List.getElem?_toArray, List.getElem?_cons_succ, List.getElem?_cons_zero]; exact rfl) ?s1_u67 ?s2_u67 ?s3_u67 ?s4_u67 ?s5_u67 ?s6_u67 ?s7_u67
            case s1_u67 => kernel_rfl
            case s2_u67 => kernel_rfl
            case s3_u67 => kernel_rfl
            case s4_u67 => exact panic_no3
            case s5_u67 => exact Or.inl ⟨rfl, by intro w hSw; (try dsimp only at hSw); go_simp; try with_reducible rfl⟩
            case s6_u67 => assumption
            try simp only [Act.put, List.setIfInBounds_toArray, List.set_cons_zero, List.set_cons_succ]
            with_reducible refine takeI2 (i := 7) (v := ?sv_u68) (oi := ?s0_u68) (by simp only [List.getElem?_toArray, List.getElem?_cons_succ, List.getElem?_cons_zero]; exact rfl) ?s1_u68 ?s2_u68 ?s3_u68 ?s4_u68 ?s5_u68 ?s6_u68 ?s7_u68
            case s1_u68 => kernel_rfl
            case s2_u68 => kernel_rfl
            case s3_u68 => kernel_rfl
            case s4_u68 => exact panic_no3
            case s5_u68 => exact Or.inl ⟨rfl, by intro w hSw; (try dsimp only at hSw); go_simp; try with_reducible rfl⟩
            case s6_u68 => assumption
            try simp only [Act.put, List.setIfInBounds_toArray, List.set_cons_zero, List.set_cons_succ]
            with_reducible refine takeI2 (i := 8) (v := ?sv_u69) (oi := ?s0_u69) (by simp only [List.getElem?_toArray, List.getElem?_cons_succ, List.getElem?_cons_zero]; exact rfl) ?s1_u69 ?s2_u69 ?s3_u69 ?s4_u69 ?s5_u69 ?s6_u69 ?s7_u69
            case s1_u69 => kernel_rfl
            case s2_u69 => kernel_rfl
            case s3_u69 => kernel_rfl
            case s4_u69 => exact panic_no3
            case s5_u69 => exact Or.inl ⟨rfl, by intro w hSw; (try dsimp only at hSw); go_simp; try with_reducible rfl⟩
            case s6_u69 => assumption
            try simp only [Act.put, List.setIfInBounds_toArray, List.set_cons_zero, List.set_cons_succ]
            with_reducible refine wpAnyH_done ?s1_u70 ?s2_u70 _
            case s1_u70 => kernel_rfl
            exact ⟨x, y, g, rfl, by first | rfl | simp only [Act.put, List.setIfInBounds_toArray, List.set_cons_zero, List.set_cons_succ], ox, oy, og, hxg, hyg, hB3⟩
      case b6_u54 =>
        intro K hK
        go_simp
        have hba := (below_alloc1 w3 (.cells #[] 3)).drew
        have og := (OwI.empty w3 B0 (by have := hB0.out; omega)).drew
        have hgs : w3.heap.size ≤ w3.heap.size := Nat.le_refl _
        replace hB3 := hba
        clear hba
        generalize hgq : w3.heap.size = g at og ⊢
        have hgw := (og.lt g rfl).2
        clear hgq hgs
        
        with_reducible refine hK.out _ _ ?s1_u71 (fun hHeld => ?s2_u71)
        case s1_u71 => (try dsimp only); exact HX3.out.1.below hB3
        clear hK K
        try simp only [Act.put, List.setIfInBounds_toArray, List.set_cons_zero, List.set_cons_succ]
        with_reducible refine wpAnyH_ready (rs := [1]) ?s1_u72 (List.cons_ne_nil _ _) ?s2_u72
        case s1_u72 => kernel_rfl
        with_reducible refine AllReadyH.cons (o := ?b0_u72) (by simp only [List.getElem?_toArray, List.getElem?_cons_succ, List.getElem?_cons_zero]; exact rfl) ?b5_u72 AllReadyH.nil
        case b5_u72 =>
          intro K hK
          go_simp
          refine (HCO.out _ (HX3.out.2.2.below hB3)).mono ?_
          rintro e wa ⟨x, rfl, ox, hb⟩
          replace og := og.below hb
          have hxg : ∀ k, x.ownBlock = some k → k ≠ g := fun k hk => by
            have h1 := (ox.lt k hk).1
            omega
          have hs := hb.size
          have ox3 := hB3.size
          replace ox := ox.base (show B0 ≤ _ by rw [← hB0.out]; exact ox3)
          clear ox3
          replace hB3 := bvia hB3 hb
          clear hb
          clear hs
          
          go_wp2_with fail
          with_reducible refine hK.out _ _ ?s1_u73 (fun hHeld => ?s2_u73)
          case s1_u73 => (try dsimp only); exact HX3.out.1.below hB3
          clear hK K
          try simp only [Act.put, List.setIfInBounds_toArray, List.set_cons_zero, List.set_cons_succ]
          with_reducible refine wpAnyH_ready (rs := [4]) ?s1_u74 (List.cons_ne_nil _ _) ?s2_u74
          case s1_u74 => kernel_rfl
          with_reducible refine AllReadyH.cons (o := ?b0_u74) (by simp only [List.getElem?_toArray, List.getElem?_cons_succ, List.getElem?_cons_zero]; exact rfl) ?b5_u74 AllReadyH.nil
          case b5_u74 =>
            intro K hK
            go_simp
            refine (HHP.out _ (HX3.out.2.1.below hB3) (HX3.out.2.2.below hB3)).mono ?_
            rintro e wb ⟨y, rfl, oy, hb⟩
            have hgz := (og.lt g rfl).2
            replace ox := ox.below hb
            replace og := og.below hb
            have hyg : ∀ k, y.ownBlock = some k → k ≠ g := fun k hk => by
              have h1 := (oy.lt k hk).1
              omega
            clear hgz
            have oy3 := hB3.size
            replace oy := oy.base (show B0 ≤ _ by rw [← hB0.out]; exact oy3)
            clear oy3
            replace hB3 := bvia hB3 hb
            clear hb
            
            go_wp2_with fail
            with_reducible refine hK.out _ _ ?s1_u75 (fun hHeld => ?s2_u75)
            case s1_u75 => (try dsimp only); exact HX3.out.1.below hB3
            clear hK K
            try simp only [Act.put, List.setIfInBounds_toArray, List.set_cons_zero, List.set_cons_succ]
            with_reducible refine takeI2 (i := 6) (v := ?sv_u76) (oi := ?s0_u76) (by simp only [List.getElem?_toArray, List.getElem?_cons_succ, List.getElem?_cons_zero]; exact rfl) ?s1_u76 ?s2_u76 ?s3_u76 ?s4_u76 ?s5_u76 ?s6_u76 ?s7_u76
            case s1_u76 => kernel_rfl
            case s2_u76 => kernel_rfl
            case s3_u76 => kernel_rfl
            case s4_u76 => exact panic_no3
            case s5_u76 => exact Or.inl ⟨rfl, by intro w hSw; (try dsimp only at hSw); go_simp; try with_reducible rfl⟩
            case s6_u76 => assumption
            try simp only [Act.put, List.setIfInBounds_toArray, List.set_cons_zero, List.set_cons_succ]
            with_reducible refine takeI2 (i := 7) (v := ?sv_u77) (oi := ?s0_u77) (by simp only [List.getElem?_toArray, List.getElem?_cons_succ, List.getElem?_cons_zero]; exact rfl) ?s1_u77 ?s2_u77 ?s3_u77 ?s4_u77 ?s5_u77 ?s6_u77 ?s7_u77
            case s1_u77 => kernel_rfl
            case s2_u77 => kernel_rfl
            case s3_u77 => kernel_rfl
            case s4_u77 => exact panic_no3
            case s5_u77 => exact Or.inl ⟨rfl, by intro w hSw; (try dsimp only at hSw); go_simp; try with_reducible rfl⟩
            case s6_u77 => assumption
            try simp only [Act.put, List.setIfInBounds_toArray, List.set_cons_zero, List.set_cons_succ]
            with_reducible refine takeI2 (i := 8) (v := ?sv_u78) (oi := ?s0_u78) (by simp only [List.getElem?_toArray, List.getElem?_cons_succ, List.getElem?_cons_zero]; exact rfl) ?s1_u78 ?s2_u78 ?s3_u78 ?s4_u78 ?s5_u78 ?s6_u78 ?s7_u78
            case s1_u78 => kernel_rfl
            case s2_u78 => kernel_rfl
            case s3_u78 => kernel_rfl
            case s4_u78 => exact panic_no3
            case s5_u78 => exact Or.inl ⟨rfl, by intro w hSw; (try dsimp only at hSw); go_simp; try with_reducible rfl⟩
            case s6_u78 => assumption
            try simp only [Act.put, List.setIfInBounds_toArray, List.set_cons_zero, List.set_cons_succ]
            with_reducible refine wpAnyH_done ?s1_u79 ?s2_u79 _
            case s1_u79 => kernel_rfl
            exact ⟨x, y, g, rfl, by first | rfl | simp only [Act.put, List.setIfInBounds_toArray, List.set_cons_zero, List.set_cons_succ], ox, oy, og, hxg, hyg, hB3⟩
    case hcont =>
      rintro x y g W ⟨ox, oy, og, hxg, hyg, hB⟩
      simp only [Act.put, List.setIfInBounds_toArray, List.set_cons_zero, List.set_cons_succ]
      obtain ⟨ax, cx, rfl⟩ := ox.rd.shape
      have hgW := (og.lt g rfl).2
      have hgb := (og.lt g rfl).1
      have HW := Lib.hid (And.intro oy (And.intro og hB))
      have hD := Below.refl W.heap.size W
      have hl1 : 1 ≤ ps.length := by have := HPL.out; omega
      clear oy og hB
      go_wp2_with (fail)
      go_loopw [5, 24] (fun v k wr => ∃ q : Nat, q ≤ N ∧ k = .int .i64 q ∧ OwI wr B0 v (nowK N zs ps q) ∧ (∀ k, v.ownBlock = some k → k ≠ g) ∧ Below W.heap.size W wr) (fun _ k _ => N - (intOf k).toNat)
      case atStart => exact ⟨0, Nat.zero_le _, rfl, ox, hxg, hD⟩
      case round =>
       focus
        clear ox hxg hD
        obtain ⟨q, hq, rfl, o1, hxg, hD⟩ := hrel
        have hB3 := bvia (show Below w3.heap.size w3 W from HW.out.2.2) hD
        have hX := HX3.out.1.below hB3
        have hR := HX3.out.2.1.below hB3
        obtain ⟨m0, m1⟩ := id hX
        by_cases hlt : q < N
        · have hqp : (q : Int) < (ps.length : Int) := by have := HPL.out; omega
          have hls := HNL.out q
          have HN1 := Lib.hid (fun h h2 => now_hit (J := N) (zs := zs) (ps := ps) (k := q) h h2)
          have HN2 := Lib.hid (fun h => now_miss (J := N) (zs := zs) (ps := ps) (k := q) h)
          have hno := HNO.out q
          generalize nowK N zs ps q = ls at o1 hls HN1 HN2 hno
          generalize hne : nowK N zs ps (q + 1) = ls2 at HN1 HN2
          replace hne := Lib.hid hne
          have hqk : q < ls.length := by omega
          have qk : (q : Int) < (ls.length : Int) := by omega
          have HLS := Lib.hid hls
          have HWO := Lib.hid (fun v w' h => implWithoutString_any ls q (by have := HLS.out; omega) v w' h)
          rw [show withoutString ls q = ls.set q (-1) by unfold withoutString; rw [if_pos (inB_true.2 (by omega)), Int.toNat_natCast]] at HWO
          have hpb := pf_bd (pulls_open hno.1).2.2.1 q
          have HFT := Lib.hid (fun h0 => few_test (ps := ps) hno.1 hno.2 hqk h0)
          have HCS := Lib.hid (fun v w' h => countStrings_any ls v w' h)
          have hci := cntI_strN (pulls_open hno.1).2.2.1
          have HPS := Lib.hid (fun h0 : 0 ≤ pf ls q => pulls_set hno.1 hqk h0)
          rw [← hci] at HPS
          have hcl := cntI_le ls
          obtain ⟨n, hn⟩ : ∃ n, cntI ls = n := ⟨_, rfl⟩
          rw [hn] at HFT HCS HPS hcl
          have hn12 : n ≤ 12 := by omega
          obtain ⟨a1, c1, rfl⟩ := o1.rd.shape
          obtain ⟨bl, ol, rfl, c0⟩ := o1.rd.cellP hqk
          generalize hpe : pf ls q = p at c0 hpb HN1 HN2 HFT HPS
          have hws := hD.size
          clear hpe hls hno hqk hci hcl hn
          by_cases h0 : p = -1
          · have HE := Lib.hid (HN2.out (fun h => by omega))
            subst h0
            go_wp2_with (fail)
            exact ⟨⟨q + 1, by omega, by go_num, by rw [hne.out, HE.out]; exact o1, hxg, hD⟩, by simp [intOf]; omega⟩
          · have h0b : (p == -1) = false := beq_eq_false_iff_ne.2 h0
            have hft := HFT.out (by omega)
            have hps2 := HPS.out (by omega)
            go_wp2_with (fail)
            refine (HWO.out _ _ o1.rd).mono ?_
            rintro e w5 ⟨x, rfl, ox, hb⟩
            have hxg2 : ∀ k, x.ownBlock = some k → k ≠ g := fun k hk => by
              have := (ox.lt k hk).1
              omega
            replace o1 := o1.below hb
            replace hX := hX.below hb
            replace hR := hR.below hb
            have hws5 := hb.size
            replace hD := bvia hD hb
            replace ox := ox.base (show B0 ≤ wr.heap.size by omega)
            clear hb m0 m1 c0
            obtain ⟨m0, m1⟩ := id hX
            go_wp2_with (fail)
            refine (HCS.out _ _ o1.rd).mono ?_
            rintro e w6 ⟨rfl, rfl⟩
            by_cases hn1 : 1 < n
            · rw [decide_eq_true hn1] at hft hps2
              rw [Bool.true_and] at hft
              have hn1i : (1 : Int) < (n : Int) := by omega
              have HHP2 := Lib.hid (fun v w' h h' => HHQ.out (ls.set q (-1)) hps2 v w' h h')
              have HY := Lib.hid (And.intro HW.out.1 hft)
              rw [poseL_eq] at HY
              simp only [poseL_eq] at HHP2
              generalize hangsB N zs ls (ls.set q (-1)) = hh at HY HN1 HN2
              clear hft hps2
              generalize ls.set q (-1) = os at HHP2 HY ox HN1 HN2
              have HRES := Lib.hid HY.out.2
              have oy := HY.out.1
              clear HY
              generalize hp (fill N (edges zs)) (pf ps) N = f at oy HRES
              simp only [poseL_eq] at HRES
              generalize hp (fill N (edges zs)) (pf os) N = gg at HHP2 HRES
              have HSI := Lib.hid (fun v u w' h h' => sameI_any N gg f hN.2 v u w' h h')
              generalize decide (rl N gg = rl N f) = res at HSI HRES
              go_wp2_with (fail)
              refine (HHP2.out _ _ hR ox.rd).mono ?_
              rintro e w7 ⟨y2, rfl, oy2, hb⟩
              replace o1 := o1.below hb
              replace ox := ox.below hb
              replace hX := hX.below hb
              replace hD := bvia hD hb
              clear hb m0 m1 hR
              obtain ⟨m0, m1⟩ := id hX
              go_wp2_with (fail)
              refine (HSI.out _ _ _ oy2.rd (oy.below hD).rd).mono ?_
              rintro e w8 ⟨rfl, hdd⟩
              have hb := hdd.below
              replace o1 := o1.below hb
              replace ox := ox.below hb
              replace hD := bvia hD hb
              clear hb hdd m0 m1 hX oy2
              have hhr := HRES.out
              cases res with
              | true =>
                have HE := Lib.hid (HN1.out (by omega) hhr)
                clear hhr
                go_wp2_with (fail)
                exact ⟨⟨q + 1, by omega, by go_num, by rw [hne.out, HE.out]; exact ox, hxg2, hD⟩, by simp [intOf]; omega⟩
              | false =>
                have HE := Lib.hid (HN2.out (fun h => by rw [hhr] at h; cases h.2))
                clear hhr
                go_wp2_with (fail)
                exact ⟨⟨q + 1, by omega, by go_num, by rw [hne.out, HE.out]; exact o1, hxg, hD⟩, by simp [intOf]; omega⟩
            · rw [decide_eq_false hn1, Bool.false_and] at hft
              have HE := Lib.hid (HN2.out (fun h => by rw [hft] at h; cases h.2))
              have hn1i : ¬ (1 : Int) < (n : Int) := by omega
              clear hft hps2
              go_wp2_with (fail)
              exact ⟨⟨q + 1, by omega, by go_num, by rw [hne.out, HE.out]; exact o1, hxg, hD⟩, by simp [intOf]; omega⟩
        · have hqe : q = N := by omega
          have hqp : ¬ (q : Int) < (ps.length : Int) := by have := HPL.out; omega
          have HE2 : Hid (fewL N zs ps = idxL (nowK N zs ps q) q) := by show _ = _; rw [HFW.out, hqe]
          have HPBD := Lib.hid (fun j => pf_bd (pulls_open (HNO.out q).1).2.2.1 j)
          have hls := HNL.out q
          generalize nowK N zs ps q = ls at o1 hls HE2 HPBD
          obtain ⟨a1, c1, rfl⟩ := o1.rd.shape
          obtain ⟨bl, ol, rfl, _⟩ := o1.rd.cellP (k := 0) (by omega)
          have hdis := dis_neg (n := 0) (c := 0) hxg
          have hO := HW.out.2.1.below hD
          have hBW2 := bvia hBW.out hB3
          have HLS := Lib.hid hls
          have hBs := hBW.out.size
          have hb0w := hB0.out
          clear hls hD hB3 hX hR hxg m0 m1
          go_wp2_with (fail)
          go_loopw [7, 49] (fun o k wr => ∃ j : Nat, j ≤ ls.length ∧ k = .int .i64 j ∧ OwI wr B0 o (idxL ls j) ∧ OwI wr B0 (.slice (some ⟨bl, ol, none⟩) ls.length c1) ls ∧ Dis (.slice (some ⟨bl, ol, none⟩) ls.length c1) o ∧ Below w.heap.size w wr) (fun _ k _ => ls.length - (intOf k).toNat)
          case atStart => exact ⟨0, Nat.zero_le _, rfl, hO, o1, hdis, hBW2⟩
          case round =>
           focus
            clear hO o1 hdis hBW2
            obtain ⟨j, hj, rfl, hO, o1, hdis, hB⟩ := hrel
            by_cases hjl : j < ls.length
            · have qjl : (j : Int) < (ls.length : Int) := by omega
              obtain ⟨bl', ol', e1, c0⟩ := o1.rd.cellP hjl
              obtain ⟨rfl, rfl⟩ : bl = bl' ∧ ol = ol' := by simpa using e1
              have HI1 := Lib.hid (fun h => idx_hit (ps := ls) (k := j) h)
              have HI2 := Lib.hid (fun h => idx_miss (ps := ls) (k := j) h)
              have hil := idx_len ls j
              have hl20 : ls.length ≤ 20 := by have := HLS.out; omega
              have hpb := (HPBD.out j).1
              generalize hpe : pf ls j = p at c0 HI1 HI2 hpb
              generalize hix : idxL ls j = il at hO HI1 HI2 hil
              replace hix := Lib.hid hix
              clear hpe e1
              by_cases h0 : p = -1
              · have HE := Lib.hid (HI2.out (by omega))
                subst h0
                go_wp2_with (fail)
                exact ⟨⟨j + 1, by omega, by go_num, by rw [HE.out]; exact hO, o1, hdis, hB⟩, by simp [intOf]; omega⟩
              · have HE := Lib.hid (HI1.out (by omega))
                have h0b : (p == -1) = false := beq_eq_false_iff_ne.2 h0
                have hws := hB.size
                have hbs : B0 ≤ wr.heap.size := by
                  have := (o1.lt bl rfl).1
                  have := (o1.lt bl rfl).2
                  omega
                go_wp2_with (at_builtin; refine wpList_pushI rfl (.tmp 56) (.tmp 58) rfl _ _ B0 _ _ rfl hO rfl (by omega) (by omega) ?_; intro v2 w6 o2 hgr hfr; have hB2 := hO.grown_below hB (by omega) hgr; have o12 := o1.kept hgr hdis; have hd2 := dis_push o1 hdis hfr; clear hgr hfr)
                exact ⟨⟨j + 1, by omega, by go_num, by rw [HE.out]; exact o2, o12, hd2, hB2⟩, by simp [intOf]; omega⟩
            · have HQ := Lib.hid (And.intro hO hB)
              have hje : j = q := by have := HLS.out; omega
              have HE3 : Hid (fewL N zs ps = idxL ls j) := by show _ = _; rw [HE2.out, hje]
              clear hO hB hje
              go_wp2_with (fail)
              go_ret
              exact ⟨_, rfl, by rw [HE3.out]; exact HQ.out.1.base (by omega), HQ.out.2⟩
end Go.Proofs.Ytfedhjfijcnpdaa
