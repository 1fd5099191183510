/- The draw of a body. -/
import Derived.Test.YtfedhjfijcnpdaaDrawB
namespace Go.Proofs.Ytfedhjfijcnpdaa
open Go.ChangeShapes Go.WideShapes Go.ChangeAt Go.RowKit Go.Joins Tr
set_option linter.unusedSimpArgs false
set_option linter.unusedVariables false
set_option maxRecDepth 20000

def sampleL : List LimbV := [(0, 1, 4), (0, 2, 6), (1, 3, 3), (1, 4, 3), (2, 5, 5), (2, 6, 5)]
theorem sample_ok : bodyB 7 sampleL = true := by decide
set_option maxHeartbeats 1000000 in
theorem sampleBody_any (w : World) : Calls Try.prog 61 #[] w fun e w' => ∃ v, e = .returned (.agg #[.int .i64 7, v]) ∧ OwLimb w' w.heap.size v sampleL ∧ Below w.heap.size w w' := by
  have hb0 := below_alloc1 w (.cells #[.int .i64 7, .slice (some ⟨w.heap.size + 1, 0, none⟩) 6 6] 26)
  have hsa : (w.alloc (.cells #[.int .i64 7, .slice (some ⟨w.heap.size + 1, 0, none⟩) 6 6] 26)).heap.size = w.heap.size + 1 := by simp
  have hr := (BR.made w w.heap.size (Nat.le_refl _) 7 (.slice (some ⟨w.heap.size + 1, 0, none⟩) 6 6)).alloc (.cells #[.int .i64 0, .int .i64 1, .int .i64 4, .int .i64 0, .int .i64 2, .int .i64 6, .int .i64 1, .int .i64 3, .int .i64 3, .int .i64 1, .int .i64 4, .int .i64 3, .int .i64 2, .int .i64 5, .int .i64 5, .int .i64 2, .int .i64 6, .int .i64 5] 80)
  have hb1 := below_alloc1 (w.alloc (.cells #[.int .i64 7, .slice (some ⟨w.heap.size + 1, 0, none⟩) 6 6] 26)) (.cells #[.int .i64 0, .int .i64 1, .int .i64 4, .int .i64 0, .int .i64 2, .int .i64 6, .int .i64 1, .int .i64 3, .int .i64 3, .int .i64 1, .int .i64 4, .int .i64 3, .int .i64 2, .int .i64 5, .int .i64 5, .int .i64 2, .int .i64 6, .int .i64 5] 80)
  have ho : OwLimb ((w.alloc (.cells #[.int .i64 7, .slice (some ⟨w.heap.size + 1, 0, none⟩) 6 6] 26)).alloc (.cells #[.int .i64 0, .int .i64 1, .int .i64 4, .int .i64 0, .int .i64 2, .int .i64 6, .int .i64 1, .int .i64 3, .int .i64 3, .int .i64 1, .int .i64 4, .int .i64 3, .int .i64 2, .int .i64 5, .int .i64 5, .int .i64 2, .int .i64 6, .int .i64 5] 80)) w.heap.size (.slice (some ⟨w.heap.size + 1, 0, none⟩) 6 6) sampleL := by
    have h := World.ownsRow_lit (base := w.heap.size) (e := 80) (size := 3) (w.alloc (.cells #[.int .i64 7, .slice (some ⟨w.heap.size + 1, 0, none⟩) 6 6] 26)) #[.int .i64 0, .int .i64 1, .int .i64 4, .int .i64 0, .int .i64 2, .int .i64 6, .int .i64 1, .int .i64 3, .int .i64 3, .int .i64 1, .int .i64 4, .int .i64 3, .int .i64 2, .int .i64 5, .int .i64 5, .int .i64 2, .int .i64 6, .int .i64 5] 6 (by rw [hsa]; omega) (by rw [maxLen_eq]; omega) rfl
    rw [hsa] at h
    exact h
  obtain ⟨⟨n0, n1⟩, _⟩ := hr.cells
  have HF := Lib.hid (And.intro ho (bvia hb0 hb1))
  clear hb0 hb1 hr ho hsa
  go_enter Try.func61, Try.ntmps61
  go_wp2_with (fail)
  (try simp only [Exit.inBlock, Exit.then])
  refine bodyPost_ret (by simp [results, Try.results61, go_sem, n0, n1]; try rfl) rfl ?_
  exact ⟨_, rfl, HF.out⟩

/-- While a body is drawn: its cell gb, the result's cell gr, the cursor g. -/
structure BI (a w : World) (g gb gr : Nat) (M : Nat) (v : Value) (ys : List LimbV) : Prop where
  hb : BR w a.heap.size gb M v
  hr : BR w a.heap.size gr 0 (.slice none 0 0)
  ol : OwLimb w a.heap.size v ys
  hc : Cur w a.heap.size g
  hB : Below a.heap.size a w
  n1 : gb ≠ g
  n2 : gr ≠ g
  n3 : gb ≠ gr
  n4 : ∀ k, v.ownBlock = some k → k ≠ g ∧ k ≠ gb ∧ k ≠ gr
  ok : bodyB M ys = true
section
variable {a w w' : World} {g gb gr M : Nat} {v : Value} {ys : List LimbV}
theorem BI.below (h : BI a w g gb gr M v ys) (hb : Below w.heap.size w w') : BI a w' g gb gr M v ys :=
  ⟨h.hb.below hb, h.hr.below hb, h.ol.below hb, h.hc.below hb, bvia h.hB hb, h.n1, h.n2, h.n3, h.n4, h.ok⟩
theorem dis_brcur {gb g : Nat} (h : gb ≠ g) : Dis (brV gb) (curV g) := dis_addr h
theorem dis_ocur {v : Value} {g : Nat} (h : ∀ k, v.ownBlock = some k → k ≠ g) : Dis v (curV g) := dis_br h
theorem BI.cur (h : BI a w g gb gr M v ys) (hc : Cur w' a.heap.size g) (hg : w.grownBy w' (curV g).ownBlock) : BI a w' g gb gr M v ys :=
  ⟨h.hb.kept hg (dis_brcur h.n1), h.hr.kept hg (dis_brcur h.n2), h.ol.kept hg (dis_ocur fun k hk => (h.n4 k hk).1), hc, below_cur h.hB hg h.hc.lt'.1 h.hB.size, h.n1, h.n2, h.n3, h.n4, h.ok⟩
theorem BI.cells (h : BI a w g gb gr M v ys) : (w.cell? ⟨gb, 0, none⟩ = some (.int .i64 (M : Int)) ∧ w.cell? ⟨gb, 1, none⟩ = some v) ∧ w.frozen? ⟨gb, 0, none⟩ = false ∧ w.frozen? ⟨gb, 1, none⟩ = false := h.hb.cells
/-- The body's cell gets another body that was made since. -/
theorem BI.put (h : BI a w g gb gr M v ys) {W : Nat} {M2 : Nat} {v2 : Value} {ys2 : List LimbV} (o : OwLimb w W v2 ys2) (hW : a.heap.size ≤ W) (hgW : g < W ∧ gb < W ∧ gr < W) (hok : bodyB M2 ys2 = true) : BI a ((w.setCell ⟨gb, 0, none⟩ (.int .i64 (M2 : Int))).setCell ⟨gb, 1, none⟩ v2) g gb gr M2 v2 ys2 := by
  have hp := h.hb.put M2 v2
  have hn : ∀ k, v2.ownBlock = some k → k ≠ g ∧ k ≠ gb ∧ k ≠ gr := fun k hk => by
    have := (o.lt k hk).1
    omega
  refine ⟨hp.1, h.hr.kept hp.2 (dis_addr (fun e => h.n3 e.symm)), (o.base hW).kept hp.2 (dis_br fun k hk => (hn k hk).2.1), h.hc.kept hp.2 (fun k hk => by rw [brV_own _ k hk]; exact h.hb.lt.1) (dis_addr (fun e => h.n1 e.symm)), ?_, h.n1, h.n2, h.n3, hn, hok⟩
  exact below_grown h.hB hp.2 (fun k hk => by rw [brV_own _ k hk]; exact h.hb.lt.1) (Nat.le_refl _)
end
set_option maxHeartbeats 4000000 in
theorem l02Body_any (a : World) (g : Nat) (w : World) (hc : Cur w a.heap.size g) (hB : Below a.heap.size a w) :
    Calls Try.prog 41 #[.pointer (some ⟨g, 0, none⟩)] w fun e w' => ∃ (M : Nat) (ys : List LimbV) (v : Value), e = .returned (.agg #[.int .i64 M, v]) ∧ bodyB M ys = true ∧ OwLimb w' a.heap.size v ys ∧ (∀ k, v.ownBlock = some k → k ≠ g) ∧ Cur w' a.heap.size g ∧ Below a.heap.size a w' := by
  have hgl := hc.lt'
  have hsB := hB.size
  have hb0 := below_alloc1 w (.cells #[.int .i64 0, .slice none 0 0] 26)
  have hr := BR.made w a.heap.size hsB 0 (.slice none 0 0)
  have hs0 : (w.alloc (.cells #[.int .i64 0, .slice none 0 0] 26)).heap.size = w.heap.size + 1 := by simp
  have HS := Lib.hid (And.intro hr (And.intro (hc.below hb0) (bvia hB hb0)))
  clear hb0 hr hc hB
  go_enter Try.func41, Try.ntmps41
  go_wp2_with (fail)
  generalize w.alloc (.cells #[.int .i64 0, .slice none 0 0] 26) = w1 at HS hs0 ⊢
  generalize w.heap.size = gr at HS hs0 hgl ⊢
  obtain ⟨hr, hc, hB⟩ := HS.out
  have hgr : gr ≠ g := by omega
  clear HS
  refine (l01Once_any _ g 5 (by omega) _ hc).mono ?_
  rintro e w2 ⟨b, rfl, hc2, hg⟩
  replace hr := hr.kept hg (dis_addr hgr)
  have hB2 := below_cur hB hg hgl.1 hB.size
  have hs2 := hg.size
  clear hg hc hB
  cases b with
  | true =>
    go_wp2_with (fail)
    refine (sampleBody_any _).mono ?_
    rintro e w3 ⟨v, rfl, ol, hb⟩
    replace hr := hr.below hb
    replace hc2 := hc2.below hb
    replace hB2 := bvia hB2 hb
    have hs3 := hb.size
    obtain ⟨x1, y1, rfl⟩ := ol.rd.shape
    clear hb
    obtain ⟨⟨d0, d1⟩, f0, f1⟩ := hr.cells
    have hp := hr.put 7 (.slice x1 sampleL.length y1)
    have hlo := ol.lt
    have o3 := (ol.kept hp.2 (dis_br (fun k hk => by have := (hlo k hk).1; omega))).base (show a.heap.size ≤ w2.heap.size by omega)
    have hc3 := hc2.kept hp.2 (fun k hk => by rw [brV_own _ k hk]; exact hr.lt.1) (dis_addr (fun e => hgr e.symm))
    have hB4 := below_grown hB2 hp.2 (fun k hk => by rw [brV_own _ k hk]; exact hr.lt.1) (Nat.le_refl _)
    obtain ⟨⟨n0, n1⟩, _⟩ := hp.1.cells
    have HF := Lib.hid (And.intro o3 (And.intro (show ∀ k, (Value.slice x1 sampleL.length y1).ownBlock = some k → k ≠ g from fun k hk => by have := (hlo k hk).1; omega) (And.intro hc3 hB4)))
    clear hp o3 hc3 hB4 ol hlo hr hc2 hB2
    go_wp2_with (fail)
    (try simp only [Exit.inBlock, Exit.then])
    refine bodyPost_ret (by simp [results, Try.results41, go_sem, n0, n1]; try rfl) rfl ?_
    exact ⟨7, sampleL, _, rfl, sample_ok, HF.out⟩
  | false =>
    have hbb := below_alloc1 w2 (.cells #[.int .i64 1, .slice none 0 0] 26)
    have hbr := BR.made w2 a.heap.size hB2.size 1 (.slice none 0 0)
    have hI : BI a (w2.alloc (.cells #[.int .i64 1, .slice none 0 0] 26)) g w2.heap.size gr 1 (.slice none 0 0) [] :=
      ⟨hbr, hr.below hbb, OwLimb.nil _ _, hc2.below hbb, bvia hB2 hbb, by have := hc2.lt'; omega, hgr, by have := hr.lt; omega, by simp [Value.ownBlock], by decide⟩
    have HI := Lib.hid hI
    clear hbb hbr hI hr hc2 hB2
    go_wp2_with (fail)
    generalize w2.alloc (.cells #[.int .i64 1, .slice none 0 0] 26) = w3 at HI ⊢
    generalize w2.heap.size = gb at HI ⊢
    have hI := HI.out
    clear HI hs0 hs2
    refine (l01Below_any _ g 7 (by omega) _ hI.hc).mono ?_
    rintro e w4 ⟨m, rfl, m0, m1, _, hc4, hg⟩
    replace hI := hI.cur hc4 hg
    replace m1 := m1 (by omega)
    clear hc4 hg
    go_wp2_with (fail)
    go_loopw [4] (fun i wr => ∃ (k : Int) (M : Nat) (v : Value) (ys : List LimbV), i = .int .i64 k ∧ 0 ≤ k ∧ k < 7 ∧ BI a wr g gb gr M v ys) (fun i _ => (intOf i).toNat)
    case atStart => exact ⟨m, 1, _, [], rfl, m0, m1, hI⟩
    case round =>
     focus
      clear hI m0 m1
      obtain ⟨k, M, v, ys, rfl, k0, k7, hI⟩ := hrel
      have hM := (body_treeN hI.ok).1
      obtain ⟨x1, y1, rfl⟩ := hI.ol.rd.shape
      by_cases hk0 : 0 < k
      · go_wp2_with (fail)
        replace hI := hI.below (dr1 _).below
        obtain ⟨⟨e0, e1⟩, _⟩ := hI.cells
        with_reducible refine region_beg (n := 13) (S := (fun _ => True)) ?b1_u1 ?b2_u1 ?b3_u1 (fun hHeld => ?b4_u1)
        case b1_u1 => kernel_rfl
        case b2_u1 => kernel_rfl
        case b3_u1 => exact trivial
        with_reducible refine takeI2 (i := 1) (v := ?sv_u2) (oi := ?s0_u2) (by simp only [List.getElem?_toArray, List.getElem?_cons_succ, List.getElem?_cons_zero]; exact rfl) ?s1_u2 ?s2_u2 ?s3_u2 ?s4_u2 ?s5_u2 ?s6_u2 ?s7_u2
        case s1_u2 => kernel_rfl
        case s2_u2 => kernel_rfl
        case s3_u2 => kernel_rfl
        case s4_u2 => exact fun _ _ _ h => h
        case s5_u2 => exact Or.inl ⟨rfl, by intro w hSw; (try dsimp only at hSw); go_simp; try with_reducible rfl⟩
        case s6_u2 => assumption
        try simp only [Act.put, List.setIfInBounds_toArray, List.set_cons_zero, List.set_cons_succ]
        with_reducible refine takeI2 (i := 2) (v := ?sv_u3) (oi := ?s0_u3) (by simp only [List.getElem?_toArray, List.getElem?_cons_succ, List.getElem?_cons_zero]; exact rfl) ?s1_u3 ?s2_u3 ?s3_u3 ?s4_u3 ?s5_u3 ?s6_u3 ?s7_u3
        case s1_u3 => kernel_rfl
        case s2_u3 => kernel_rfl
        case s3_u3 => kernel_rfl
        case s4_u3 => exact fun _ _ _ h => h
        case s5_u3 => exact Or.inl ⟨rfl, by intro w hSw; (try dsimp only at hSw); go_simp; try with_reducible rfl⟩
        case s6_u3 => assumption
        try simp only [Act.put, List.setIfInBounds_toArray, List.set_cons_zero, List.set_cons_succ]
        with_reducible refine takeI2 (i := 5) (v := ?sv_u4) (oi := ?s0_u4) (by simp only [List.getElem?_toArray, List.getElem?_cons_succ, List.getElem?_cons_zero]; exact rfl) ?s1_u4 ?s2_u4 ?s3_u4 ?s4_u4 ?s5_u4 ?s6_u4 ?s7_u4
        case s1_u4 => kernel_rfl
        case s2_u4 => kernel_rfl
        case s3_u4 => kernel_rfl
        case s4_u4 => exact fun _ _ _ h => h
        case s5_u4 => exact Or.inl ⟨rfl, by intro w hSw; (try dsimp only at hSw); go_simp; try with_reducible rfl⟩
        case s6_u4 => assumption
        try simp only [Act.put, List.setIfInBounds_toArray, List.set_cons_zero, List.set_cons_succ]
        with_reducible refine wpAnyH_ready (rs := [0, 3]) ?s1_u5 (List.cons_ne_nil _ _) ?s2_u5
        case s1_u5 => kernel_rfl
        with_reducible refine AllReadyH.cons (o := ?b0_u5) (by simp only [List.getElem?_toArray, List.getElem?_cons_succ, List.getElem?_cons_zero]; exact rfl) ?b5_u5 (AllReadyH.cons (o := ?b1_u5) (by simp only [List.getElem?_toArray, List.getElem?_cons_succ, List.getElem?_cons_zero]; exact rfl) ?b6_u5 AllReadyH.nil)
        case b5_u5 =>
          intro K hK
          go_simp
          skip
          with_reducible refine hK.out _ _ ?s1_u6 (fun hHeld => ?s2_u6)
          case s1_u6 => exact trivial
          clear hK K
          try simp only [Act.put, List.setIfInBounds_toArray, List.set_cons_zero, List.set_cons_succ]
          with_reducible refine wpAnyH_ready (rs := [3]) ?s1_u7 (List.cons_ne_nil _ _) ?s2_u7
          case s1_u7 => kernel_rfl
          with_reducible refine AllReadyH.cons (o := ?b0_u7) (by simp only [List.getElem?_toArray, List.getElem?_cons_succ, List.getElem?_cons_zero]; exact rfl) ?b5_u7 AllReadyH.nil
          case b5_u7 =>
            intro K hK
            go_simp
            skip
            with_reducible refine hK.out _ _ ?s1_u8 (fun hHeld => ?s2_u8)
            case s1_u8 => exact trivial
            clear hK K
            try simp only [Act.put, List.setIfInBounds_toArray, List.set_cons_zero, List.set_cons_succ]
            with_reducible refine wpAnyH_ready (rs := [4]) ?s1_u9 (List.cons_ne_nil _ _) ?s2_u9
            case s1_u9 => kernel_rfl
            with_reducible refine AllReadyH.cons (o := ?b0_u9) (by simp only [List.getElem?_toArray, List.getElem?_cons_succ, List.getElem?_cons_zero]; exact rfl) ?b5_u9 AllReadyH.nil
            case b5_u9 =>
              intro K hK
              go_simp
              refine (l01Below_any _ g M (by omega) _ hI.hc).mono ?_
              rintro e w5 ⟨j, rfl, j0, j1, _, hc5, hg⟩
              replace hI := hI.cur hc5 hg
              replace j1 := j1 (by omega)
              clear hc5 hg e0 e1
              obtain ⟨⟨e0, e1⟩, _⟩ := hI.cells
              go_wp2_with fail
              with_reducible refine hK.out _ _ ?s1_u10 (fun hHeld => ?s2_u10)
              case s1_u10 => exact trivial
              clear hK K
              try simp only [Act.put, List.setIfInBounds_toArray, List.set_cons_zero, List.set_cons_succ]
              with_reducible refine wpAnyH_ready (rs := [6]) ?s1_u11 (List.cons_ne_nil _ _) ?s2_u11
              case s1_u11 => kernel_rfl
              with_reducible refine AllReadyH.cons (o := ?b0_u11) (by simp only [List.getElem?_toArray, List.getElem?_cons_succ, List.getElem?_cons_zero]; exact rfl) ?b5_u11 AllReadyH.nil
              case b5_u11 =>
                intro K hK
                go_simp
                refine (l01Below_any _ g 9 (by omega) _ hI.hc).mono ?_
                rintro e w6 ⟨q, rfl, q0, q1, _, hc6, hg⟩
                replace hI := hI.cur hc6 hg
                replace q1 := q1 (by omega)
                have hwq : IntKind.i64.wrap (1 + q) = 1 + q := IntWalk.i64_in _ (by omega)
                clear hc6 hg e0 e1
                obtain ⟨⟨e0, e1⟩, _⟩ := hI.cells
                go_wp2_with fail
                with_reducible refine hK.out _ _ ?s1_u12 (fun hHeld => ?s2_u12)
                case s1_u12 => exact trivial
                clear hK K
                try simp only [Act.put, List.setIfInBounds_toArray, List.set_cons_zero, List.set_cons_succ]
                with_reducible refine takeI2 (i := 7) (v := ?sv_u13) (oi := ?s0_u13) (by simp only [List.getElem?_toArray, List.getElem?_cons_succ, List.getElem?_cons_zero]; exact rfl) ?s1_u13 ?s2_u13 ?s3_u13 ?s4_u13 ?s5_u13 ?s6_u13 ?s7_u13
                case s1_u13 => kernel_rfl
                case s2_u13 => kernel_rfl
                case s3_u13 => kernel_rfl
                case s4_u13 => exact fun _ _ _ h => h
                case s5_u13 => exact Or.inl ⟨rfl, by intro w hSw; (try dsimp only at hSw); go_simp; try with_reducible rfl⟩
                case s6_u13 => assumption
                try simp only [Act.put, List.setIfInBounds_toArray, List.set_cons_zero, List.set_cons_succ]
                with_reducible refine wpAnyH_ready (rs := [8]) ?s1_u14 one_ne ?s2_u14
                case s1_u14 => kernel_rfl
                with_reducible refine AllReadyH.cons (o := ?s0_u14) (by simp only [List.getElem?_toArray, List.getElem?_cons_succ, List.getElem?_cons_zero]; exact rfl) (fun K hK => ?s3_u14) AllReadyH.nil
                go_simp
                refine (addLimb_any M ys hI.ok j (1 + q) (by omega) (by omega) _ _ hI.ol.rd).mono ?_
                rintro e w7 ⟨M2, ys2, v2, b2, rfl, hok2, o2, hb⟩
                have hgw := (And.intro hI.hc.lt'.2 (And.intro hI.hb.lt.2 hI.hr.lt.2))
                have hwa := hI.hB.size
                replace hI := hI.below hb
                obtain ⟨x2, y2, rfl⟩ := o2.rd.shape
                clear hb e0 e1
                obtain ⟨_, f0, f1⟩ := hI.cells
                obtain ⟨⟨d0, d1⟩, _⟩ := hI.cells
                go_wp2_with fail
                with_reducible refine hK.out _ _ ?s1_u15 (fun hHeld => ?s2_u15)
                case s1_u15 => exact trivial
                clear hK K
                try simp only [Act.put, List.setIfInBounds_toArray, List.set_cons_zero, List.set_cons_succ]
                with_reducible refine takeI2 (i := 9) (v := ?sv_u16) (oi := ?s0_u16) (by simp only [List.getElem?_toArray, List.getElem?_cons_succ, List.getElem?_cons_zero]; exact rfl) ?s1_u16 ?s2_u16 ?s3_u16 ?s4_u16 ?s5_u16 ?s6_u16 ?s7_u16
                case s1_u16 => kernel_rfl
                case s2_u16 => kernel_rfl
                case s3_u16 => kernel_rfl
                case s4_u16 => exact fun _ _ _ h => h
                case s5_u16 => exact Or.inl ⟨rfl, by intro w hSw; (try dsimp only at hSw); go_simp; try with_reducible rfl⟩
                case s6_u16 => assumption
                try simp only [Act.put, List.setIfInBounds_toArray, List.set_cons_zero, List.set_cons_succ]
                with_reducible refine takeI2 (i := 10) (v := ?sv_u17) (oi := ?s0_u17) (by simp only [List.getElem?_toArray, List.getElem?_cons_succ, List.getElem?_cons_zero]; exact rfl) ?s1_u17 ?s2_u17 ?s3_u17 ?s4_u17 ?s5_u17 ?s6_u17 ?s7_u17
                case s1_u17 => kernel_rfl
                case s2_u17 => kernel_rfl
                case s3_u17 => kernel_rfl
                case s4_u17 => exact fun _ _ _ h => h
                case s5_u17 => exact Or.inl ⟨rfl, by intro w hSw; (try dsimp only at hSw); go_simp; try with_reducible rfl⟩
                case s6_u17 => assumption
                try simp only [Act.put, List.setIfInBounds_toArray, List.set_cons_zero, List.set_cons_succ]
                with_reducible refine takeI2 (i := 11) (v := ?sv_u18) (oi := ?s0_u18) (by simp only [List.getElem?_toArray, List.getElem?_cons_succ, List.getElem?_cons_zero]; exact rfl) ?s1_u18 ?s2_u18 ?s3_u18 ?s4_u18 ?s5_u18 ?s6_u18 ?s7_u18
                case s1_u18 => kernel_rfl
                case s2_u18 => kernel_rfl
                case s3_u18 => kernel_rfl
                case s4_u18 => exact fun _ _ _ h => h
                case s5_u18 => exact Or.inl ⟨rfl, by intro w hSw; (try dsimp only at hSw); go_simp; try with_reducible rfl⟩
                case s6_u18 => assumption
                try simp only [Act.put, List.setIfInBounds_toArray, List.set_cons_zero, List.set_cons_succ]
                have hI2 := hI.put o2 hwa hgw hok2
                clear o2
                replace hI := hI2
                clear hI2
                with_reducible refine wpAnyH_ready (rs := [12]) ?s1_u19 one_ne ?s2_u19
                case s1_u19 => kernel_rfl
                with_reducible refine AllReadyH.cons (o := ?s0_u19) (by simp only [List.getElem?_toArray, List.getElem?_cons_succ, List.getElem?_cons_zero]; exact rfl) (fun K hK => ?s3_u19) AllReadyH.nil
                go_simp
                skip
                with_reducible refine hK.out _ _ ?s1_u20 (fun hHeld => ?s2_u20)
                case s1_u20 => exact trivial
                clear hK K
                try simp only [Act.put, List.setIfInBounds_toArray, List.set_cons_zero, List.set_cons_succ]
                with_reducible refine wpAnyH_done ?s1_u21 ?s2_u21 _
                case s1_u21 => kernel_rfl
                go_wp2_with (fail)
                exact ⟨⟨k - 1, M2, _, ys2, by go_num, by omega, by omega, hI⟩, by simp [intOf]; omega⟩
        case b6_u5 =>
          intro K hK
          go_simp
          skip
          with_reducible refine hK.out _ _ ?s1_u22 (fun hHeld => ?s2_u22)
          case s1_u22 => exact trivial
          clear hK K
          try simp only [Act.put, List.setIfInBounds_toArray, List.set_cons_zero, List.set_cons_succ]
          with_reducible refine wpAnyH_ready (rs := [0, 4]) ?s1_u23 (List.cons_ne_nil _ _) ?s2_u23
          case s1_u23 => kernel_rfl
          with_reducible refine AllReadyH.cons (o := ?b0_u23) (by simp only [List.getElem?_toArray, List.getElem?_cons_succ, List.getElem?_cons_zero]; exact rfl) ?b5_u23 (AllReadyH.cons (o := ?b1_u23) (by simp only [List.getElem?_toArray, List.getElem?_cons_succ, List.getElem?_cons_zero]; exact rfl) ?b6_u23 AllReadyH.nil)
          case b5_u23 =>
            intro K hK
            go_simp
            skip
            with_reducible refine hK.out _ _ ?s1_u24 (fun hHeld => ?s2_u24)
            case s1_u24 => exact trivial
            clear hK K
            try simp only [Act.put, List.setIfInBounds_toArray, List.set_cons_zero, List.set_cons_succ]
            with_reducible refine wpAnyH_ready (rs := [4]) ?s1_u25 (List.cons_ne_nil _ _) ?s2_u25
            case s1_u25 => kernel_rfl
            with_reducible refine AllReadyH.cons (o := ?b0_u25) (by simp only [List.getElem?_toArray, List.getElem?_cons_succ, List.getElem?_cons_zero]; exact rfl) ?b5_u25 AllReadyH.nil
            case b5_u25 =>
              intro K hK
              go_simp
              refine (l01Below_any _ g M (by omega) _ hI.hc).mono ?_
              rintro e w5 ⟨j, rfl, j0, j1, _, hc5, hg⟩
              replace hI := hI.cur hc5 hg
              replace j1 := j1 (by omega)
              clear hc5 hg e0 e1
              obtain ⟨⟨e0, e1⟩, _⟩ := hI.cells
              go_wp2_with fail
              with_reducible refine hK.out _ _ ?s1_u26 (fun hHeld => ?s2_u26)
              case s1_u26 => exact trivial
              clear hK K
              try simp only [Act.put, List.setIfInBounds_toArray, List.set_cons_zero, List.set_cons_succ]
              with_reducible refine wpAnyH_ready (rs := [6]) ?s1_u27 (List.cons_ne_nil _ _) ?s2_u27
              case s1_u27 => kernel_rfl
              with_reducible refine AllReadyH.cons (o := ?b0_u27) (by simp only [List.getElem?_toArray, List.getElem?_cons_succ, List.getElem?_cons_zero]; exact rfl) ?b5_u27 AllReadyH.nil
              case b5_u27 =>
                intro K hK
                go_simp
                refine (l01Below_any _ g 9 (by omega) _ hI.hc).mono ?_
                rintro e w6 ⟨q, rfl, q0, q1, _, hc6, hg⟩
                replace hI := hI.cur hc6 hg
                replace q1 := q1 (by omega)
                have hwq : IntKind.i64.wrap (1 + q) = 1 + q := IntWalk.i64_in _ (by omega)
                clear hc6 hg e0 e1
                obtain ⟨⟨e0, e1⟩, _⟩ := hI.cells
                go_wp2_with fail
                with_reducible refine hK.out _ _ ?s1_u28 (fun hHeld => ?s2_u28)
                case s1_u28 => exact trivial
                clear hK K
                try simp only [Act.put, List.setIfInBounds_toArray, List.set_cons_zero, List.set_cons_succ]
                with_reducible refine takeI2 (i := 7) (v := ?sv_u29) (oi := ?s0_u29) (by simp only [List.getElem?_toArray, List.getElem?_cons_succ, List.getElem?_cons_zero]; exact rfl) ?s1_u29 ?s2_u29 ?s3_u29 ?s4_u29 ?s5_u29 ?s6_u29 ?s7_u29
                case s1_u29 => kernel_rfl
                case s2_u29 => kernel_rfl
                case s3_u29 => kernel_rfl
                case s4_u29 => exact fun _ _ _ h => h
                case s5_u29 => exact Or.inl ⟨rfl, by intro w hSw; (try dsimp only at hSw); go_simp; try with_reducible rfl⟩
                case s6_u29 => assumption
                try simp only [Act.put, List.setIfInBounds_toArray, List.set_cons_zero, List.set_cons_succ]
                with_reducible refine wpAnyH_ready (rs := [8]) ?s1_u30 one_ne ?s2_u30
                case s1_u30 => kernel_rfl
                with_reducible refine AllReadyH.cons (o := ?s0_u30) (by simp only [List.getElem?_toArray, List.getElem?_cons_succ, List.getElem?_cons_zero]; exact rfl) (fun K hK => ?s3_u30) AllReadyH.nil
                go_simp
                refine (addLimb_any M ys hI.ok j (1 + q) (by omega) (by omega) _ _ hI.ol.rd).mono ?_
                rintro e w7 ⟨M2, ys2, v2, b2, rfl, hok2, o2, hb⟩
                have hgw := (And.intro hI.hc.lt'.2 (And.intro hI.hb.lt.2 hI.hr.lt.2))
                have hwa := hI.hB.size
                replace hI := hI.below hb
                obtain ⟨x2, y2, rfl⟩ := o2.rd.shape
                clear hb e0 e1
                obtain ⟨_, f0, f1⟩ := hI.cells
                obtain ⟨⟨d0, d1⟩, _⟩ := hI.cells
                go_wp2_with fail
                with_reducible refine hK.out _ _ ?s1_u31 (fun hHeld => ?s2_u31)
                case s1_u31 => exact trivial
                clear hK K
                try simp only [Act.put, List.setIfInBounds_toArray, List.set_cons_zero, List.set_cons_succ]
                with_reducible refine takeI2 (i := 9) (v := ?sv_u32) (oi := ?s0_u32) (by simp only [List.getElem?_toArray, List.getElem?_cons_succ, List.getElem?_cons_zero]; exact rfl) ?s1_u32 ?s2_u32 ?s3_u32 ?s4_u32 ?s5_u32 ?s6_u32 ?s7_u32
                case s1_u32 => kernel_rfl
                case s2_u32 => kernel_rfl
                case s3_u32 => kernel_rfl
                case s4_u32 => exact fun _ _ _ h => h
                case s5_u32 => exact Or.inl ⟨rfl, by intro w hSw; (try dsimp only at hSw); go_simp; try with_reducible rfl⟩
                case s6_u32 => assumption
                try simp only [Act.put, List.setIfInBounds_toArray, List.set_cons_zero, List.set_cons_succ]
                with_reducible refine takeI2 (i := 10) (v := ?sv_u33) (oi := ?s0_u33) (by simp only [List.getElem?_toArray, List.getElem?_cons_succ, List.getElem?_cons_zero]; exact rfl) ?s1_u33 ?s2_u33 ?s3_u33 ?s4_u33 ?s5_u33 ?s6_u33 ?s7_u33
                case s1_u33 => kernel_rfl
                case s2_u33 => kernel_rfl
                case s3_u33 => kernel_rfl
                case s4_u33 => exact fun _ _ _ h => h
                case s5_u33 => exact Or.inl ⟨rfl, by intro w hSw; (try dsimp only at hSw); go_simp; try with_reducible rfl⟩
                case s6_u33 => assumption
                try simp only [Act.put, List.setIfInBounds_toArray, List.set_cons_zero, List.set_cons_succ]
                with_reducible refine takeI2 (i := 11) (v := ?sv_u34) (oi := ?s0_u34) (by simp only [List.getElem?_toArray, List.getElem?_cons_succ, List.getElem?_cons_zero]; exact rfl) ?s1_u34 ?s2_u34 ?s3_u34 ?s4_u34 ?s5_u34 ?s6_u34 ?s7_u34
                case s1_u34 => kernel_rfl
                case s2_u34 => kernel_rfl
                case s3_u34 => kernel_rfl
                case s4_u34 => exact fun _ _ _ h => h
                case s5_u34 => exact Or.inl ⟨rfl, by intro w hSw; (try dsimp only at hSw); go_simp; try with_reducible rfl⟩
                case s6_u34 => assumption
                try simp only [Act.put, List.setIfInBounds_toArray, List.set_cons_zero, List.set_cons_succ]
                have hI2 := hI.put o2 hwa hgw hok2
                clear o2
                replace hI := hI2
                clear hI2
                with_reducible refine wpAnyH_ready (rs := [12]) ?s1_u35 one_ne ?s2_u35
                case s1_u35 => kernel_rfl
                with_reducible refine AllReadyH.cons (o := ?s0_u35) (by simp only [List.getElem?_toArray, List.getElem?_cons_succ, List.getElem?_cons_zero]; exact rfl) (fun K hK => ?s3_u35) AllReadyH.nil
                go_simp
                skip
                with_reducible refine hK.out _ _ ?s1_u36 (fun hHeld => ?s2_u36)
                case s1_u36 => exact trivial
                clear hK K
                try simp only [Act.put, List.setIfInBounds_toArray, List.set_cons_zero, List.set_cons_succ]
                with_reducible refine wpAnyH_done ?s1_u37 ?s2_u37 _
                case s1_u37 => kernel_rfl
                go_wp2_with (fail)
                exact ⟨⟨k - 1, M2, _, ys2, by go_num, by omega, by omega, hI⟩, by simp [intOf]; omega⟩
          case b6_u23 =>
            intro K hK
            go_simp
            refine (l01Below_any _ g M (by omega) _ hI.hc).mono ?_
            rintro e w5 ⟨j, rfl, j0, j1, _, hc5, hg⟩
            replace hI := hI.cur hc5 hg
            replace j1 := j1 (by omega)
            clear hc5 hg e0 e1
            obtain ⟨⟨e0, e1⟩, _⟩ := hI.cells
            go_wp2_with fail
            with_reducible refine hK.out _ _ ?s1_u38 (fun hHeld => ?s2_u38)
            case s1_u38 => exact trivial
            clear hK K
            try simp only [Act.put, List.setIfInBounds_toArray, List.set_cons_zero, List.set_cons_succ]
            with_reducible refine wpAnyH_ready (rs := [0, 6]) ?s1_u39 (List.cons_ne_nil _ _) ?s2_u39
            case s1_u39 => kernel_rfl
            with_reducible refine AllReadyH.cons (o := ?b0_u39) (by simp only [List.getElem?_toArray, List.getElem?_cons_succ, List.getElem?_cons_zero]; exact rfl) ?b5_u39 (AllReadyH.cons (o := ?b1_u39) (by simp only [List.getElem?_toArray, List.getElem?_cons_succ, List.getElem?_cons_zero]; exact rfl) ?b6_u39 AllReadyH.nil)
            case b5_u39 =>
              intro K hK
              go_simp
              skip
              with_reducible refine hK.out _ _ ?s1_u40 (fun hHeld => ?s2_u40)
              case s1_u40 => exact trivial
              clear hK K
              try simp only [Act.put, List.setIfInBounds_toArray, List.set_cons_zero, List.set_cons_succ]
              with_reducible refine wpAnyH_ready (rs := [6]) ?s1_u41 (List.cons_ne_nil _ _) ?s2_u41
              case s1_u41 => kernel_rfl
              with_reducible refine AllReadyH.cons (o := ?b0_u41) (by simp only [List.getElem?_toArray, List.getElem?_cons_succ, List.getElem?_cons_zero]; exact rfl) ?b5_u41 AllReadyH.nil
              case b5_u41 =>
                intro K hK
                go_simp
                refine (l01Below_any _ g 9 (by omega) _ hI.hc).mono ?_
                rintro e w6 ⟨q, rfl, q0, q1, _, hc6, hg⟩
                replace hI := hI.cur hc6 hg
                replace q1 := q1 (by omega)
                have hwq : IntKind.i64.wrap (1 + q) = 1 + q := IntWalk.i64_in _ (by omega)
                clear hc6 hg e0 e1
                obtain ⟨⟨e0, e1⟩, _⟩ := hI.cells
                go_wp2_with fail
                with_reducible refine hK.out _ _ ?s1_u42 (fun hHeld => ?s2_u42)
                case s1_u42 => exact trivial
                clear hK K
                try simp only [Act.put, List.setIfInBounds_toArray, List.set_cons_zero, List.set_cons_succ]
                with_reducible refine takeI2 (i := 7) (v := ?sv_u43) (oi := ?s0_u43) (by simp only [List.getElem?_toArray, List.getElem?_cons_succ, List.getElem?_cons_zero]; exact rfl) ?s1_u43 ?s2_u43 ?s3_u43 ?s4_u43 ?s5_u43 ?s6_u43 ?s7_u43
                case s1_u43 => kernel_rfl
                case s2_u43 => kernel_rfl
                case s3_u43 => kernel_rfl
                case s4_u43 => exact fun _ _ _ h => h
                case s5_u43 => exact Or.inl ⟨rfl, by intro w hSw; (try dsimp only at hSw); go_simp; try with_reducible rfl⟩
                case s6_u43 => assumption
                try simp only [Act.put, List.setIfInBounds_toArray, List.set_cons_zero, List.set_cons_succ]
                with_reducible refine wpAnyH_ready (rs := [8]) ?s1_u44 one_ne ?s2_u44
                case s1_u44 => kernel_rfl
                with_reducible refine AllReadyH.cons (o := ?s0_u44) (by simp only [List.getElem?_toArray, List.getElem?_cons_succ, List.getElem?_cons_zero]; exact rfl) (fun K hK => ?s3_u44) AllReadyH.nil
                go_simp
                refine (addLimb_any M ys hI.ok j (1 + q) (by omega) (by omega) _ _ hI.ol.rd).mono ?_
                rintro e w7 ⟨M2, ys2, v2, b2, rfl, hok2, o2, hb⟩
                have hgw := (And.intro hI.hc.lt'.2 (And.intro hI.hb.lt.2 hI.hr.lt.2))
                have hwa := hI.hB.size
                replace hI := hI.below hb
                obtain ⟨x2, y2, rfl⟩ := o2.rd.shape
                clear hb e0 e1
                obtain ⟨_, f0, f1⟩ := hI.cells
                obtain ⟨⟨d0, d1⟩, _⟩ := hI.cells
                go_wp2_with fail
                with_reducible refine hK.out _ _ ?s1_u45 (fun hHeld => ?s2_u45)
                case s1_u45 => exact trivial
                clear hK K
                try simp only [Act.put, List.setIfInBounds_toArray, List.set_cons_zero, List.set_cons_succ]
                with_reducible refine takeI2 (i := 9) (v := ?sv_u46) (oi := ?s0_u46) (by simp only [List.getElem?_toArray, List.getElem?_cons_succ, List.getElem?_cons_zero]; exact rfl) ?s1_u46 ?s2_u46 ?s3_u46 ?s4_u46 ?s5_u46 ?s6_u46 ?s7_u46
                case s1_u46 => kernel_rfl
                case s2_u46 => kernel_rfl
                case s3_u46 => kernel_rfl
                case s4_u46 => exact fun _ _ _ h => h
                case s5_u46 => exact Or.inl ⟨rfl, by intro w hSw; (try dsimp only at hSw); go_simp; try with_reducible rfl⟩
                case s6_u46 => assumption
                try simp only [Act.put, List.setIfInBounds_toArray, List.set_cons_zero, List.set_cons_succ]
                with_reducible refine takeI2 (i := 10) (v := ?sv_u47) (oi := ?s0_u47) (by simp only [List.getElem?_toArray, List.getElem?_cons_succ, List.getElem?_cons_zero]; exact rfl) ?s1_u47 ?s2_u47 ?s3_u47 ?s4_u47 ?s5_u47 ?s6_u47 ?s7_u47
                case s1_u47 => kernel_rfl
                case s2_u47 => kernel_rfl
                case s3_u47 => kernel_rfl
                case s4_u47 => exact fun _ _ _ h => h
                case s5_u47 => exact Or.inl ⟨rfl, by intro w hSw; (try dsimp only at hSw); go_simp; try with_reducible rfl⟩
                case s6_u47 => assumption
                try simp only [Act.put, List.setIfInBounds_toArray, List.set_cons_zero, List.set_cons_succ]
                with_reducible refine takeI2 (i := 11) (v := ?sv_u48) (oi := ?s0_u48) (by simp only [List.getElem?_toArray, List.getElem?_cons_succ, List.getElem?_cons_zero]; exact rfl) ?s1_u48 ?s2_u48 ?s3_u48 ?s4_u48 ?s5_u48 ?s6_u48 ?s7_u48
                case s1_u48 => kernel_rfl
                case s2_u48 => kernel_rfl
                case s3_u48 => kernel_rfl
                case s4_u48 => exact fun _ _ _ h => h
                case s5_u48 => exact Or.inl ⟨rfl, by intro w hSw; (try dsimp only at hSw); go_simp; try with_reducible rfl⟩
                case s6_u48 => assumption
                try simp only [Act.put, List.setIfInBounds_toArray, List.set_cons_zero, List.set_cons_succ]
                have hI2 := hI.put o2 hwa hgw hok2
                clear o2
                replace hI := hI2
                clear hI2
                with_reducible refine wpAnyH_ready (rs := [12]) ?s1_u49 one_ne ?s2_u49
                case s1_u49 => kernel_rfl
                with_reducible refine AllReadyH.cons (o := ?s0_u49) (by simp only [List.getElem?_toArray, List.getElem?_cons_succ, List.getElem?_cons_zero]; exact rfl) (fun K hK => ?s3_u49) AllReadyH.nil
                go_simp
                skip
                with_reducible refine hK.out _ _ ?s1_u50 (fun hHeld => ?s2_u50)
                case s1_u50 => exact trivial
                clear hK K
                try simp only [Act.put, List.setIfInBounds_toArray, List.set_cons_zero, List.set_cons_succ]
                with_reducible refine wpAnyH_done ?s1_u51 ?s2_u51 _
                case s1_u51 => kernel_rfl
                go_wp2_with (fail)
                exact ⟨⟨k - 1, M2, _, ys2, by go_num, by omega, by omega, hI⟩, by simp [intOf]; omega⟩
            case b6_u39 =>
              intro K hK
              go_simp
              refine (l01Below_any _ g 9 (by omega) _ hI.hc).mono ?_
              rintro e w6 ⟨q, rfl, q0, q1, _, hc6, hg⟩
              replace hI := hI.cur hc6 hg
              replace q1 := q1 (by omega)
              have hwq : IntKind.i64.wrap (1 + q) = 1 + q := IntWalk.i64_in _ (by omega)
              clear hc6 hg e0 e1
              obtain ⟨⟨e0, e1⟩, _⟩ := hI.cells
              go_wp2_with fail
              with_reducible refine hK.out _ _ ?s1_u52 (fun hHeld => ?s2_u52)
              case s1_u52 => exact trivial
              clear hK K
              try simp only [Act.put, List.setIfInBounds_toArray, List.set_cons_zero, List.set_cons_succ]
              with_reducible refine takeI2 (i := 7) (v := ?sv_u53) (oi := ?s0_u53) (by simp only [List.getElem?_toArray, List.getElem?_cons_succ, List.getElem?_cons_zero]; exact rfl) ?s1_u53 ?s2_u53 ?s3_u53 ?s4_u53 ?s5_u53 ?s6_u53 ?s7_u53
              case s1_u53 => kernel_rfl
              case s2_u53 => kernel_rfl
              case s3_u53 => kernel_rfl
              case s4_u53 => exact fun _ _ _ h => h
              case s5_u53 => exact Or.inl ⟨rfl, by intro w hSw; (try dsimp only at hSw); go_simp; try with_reducible rfl⟩
              case s6_u53 => assumption
              try simp only [Act.put, List.setIfInBounds_toArray, List.set_cons_zero, List.set_cons_succ]
              with_reducible refine wpAnyH_ready (rs := [0]) ?s1_u54 (List.cons_ne_nil _ _) ?s2_u54
              case s1_u54 => kernel_rfl
              with_reducible refine AllReadyH.cons (o := ?b0_u54) (by simp only [List.getElem?_toArray, List.getElem?_cons_succ, List.getElem?_cons_zero]; exact rfl) ?b5_u54 AllReadyH.nil
              case b5_u54 =>
                intro K hK
                go_simp
                skip
                with_reducible refine hK.out _ _ ?s1_u55 (fun hHeld => ?s2_u55)
                case s1_u55 => exact trivial
                clear hK K
                try simp only [Act.put, List.setIfInBounds_toArray, List.set_cons_zero, List.set_cons_succ]
                with_reducible refine wpAnyH_ready (rs := [8]) ?s1_u56 one_ne ?s2_u56
                case s1_u56 => kernel_rfl
                with_reducible refine AllReadyH.cons (o := ?s0_u56) (by simp only [List.getElem?_toArray, List.getElem?_cons_succ, List.getElem?_cons_zero]; exact rfl) (fun K hK => ?s3_u56) AllReadyH.nil
                go_simp
                refine (addLimb_any M ys hI.ok j (1 + q) (by omega) (by omega) _ _ hI.ol.rd).mono ?_
                rintro e w7 ⟨M2, ys2, v2, b2, rfl, hok2, o2, hb⟩
                have hgw := (And.intro hI.hc.lt'.2 (And.intro hI.hb.lt.2 hI.hr.lt.2))
                have hwa := hI.hB.size
                replace hI := hI.below hb
                obtain ⟨x2, y2, rfl⟩ := o2.rd.shape
                clear hb e0 e1
                obtain ⟨_, f0, f1⟩ := hI.cells
                obtain ⟨⟨d0, d1⟩, _⟩ := hI.cells
                go_wp2_with fail
                with_reducible refine hK.out _ _ ?s1_u57 (fun hHeld => ?s2_u57)
                case s1_u57 => exact trivial
                clear hK K
                try simp only [Act.put, List.setIfInBounds_toArray, List.set_cons_zero, List.set_cons_succ]
                with_reducible refine takeI2 (i := 9) (v := ?sv_u58) (oi := ?s0_u58) (by simp only [List.getElem?_toArray, List.getElem?_cons_succ, List.getElem?_cons_zero]; exact rfl) ?s1_u58 ?s2_u58 ?s3_u58 ?s4_u58 ?s5_u58 ?s6_u58 ?s7_u58
                case s1_u58 => kernel_rfl
                case s2_u58 => kernel_rfl
                case s3_u58 => kernel_rfl
                case s4_u58 => exact fun _ _ _ h => h
                case s5_u58 => exact Or.inl ⟨rfl, by intro w hSw; (try dsimp only at hSw); go_simp; try with_reducible rfl⟩
                case s6_u58 => assumption
                try simp only [Act.put, List.setIfInBounds_toArray, List.set_cons_zero, List.set_cons_succ]
                with_reducible refine takeI2 (i := 10) (v := ?sv_u59) (oi := ?s0_u59) (by simp only [List.getElem?_toArray, List.getElem?_cons_succ, List.getElem?_cons_zero]; exact rfl) ?s1_u59 ?s2_u59 ?s3_u59 ?s4_u59 ?s5_u59 ?s6_u59 ?s7_u59
                case s1_u59 => kernel_rfl
                case s2_u59 => kernel_rfl
                case s3_u59 => kernel_rfl
                case s4_u59 => exact fun _ _ _ h => h
                case s5_u59 => exact Or.inl ⟨rfl, by intro w hSw; (try dsimp only at hSw); go_simp; try with_reducible rfl⟩
                case s6_u59 => assumption
                try simp only [Act.put, List.setIfInBounds_toArray, List.set_cons_zero, List.set_cons_succ]
                with_reducible refine takeI2 (i := 11) (v := ?sv_u60) (oi := ?s0_u60) (by simp only [List.getElem?_toArray, List.getElem?_cons_succ, List.getElem?_cons_zero]; exact rfl) ?s1_u60 ?s2_u60 ?s3_u60 ?s4_u60 ?s5_u60 ?s6_u60 ?s7_u60
                case s1_u60 => kernel_rfl
                case s2_u60 => kernel_rfl
                case s3_u60 => kernel_rfl
                case s4_u60 => exact fun _ _ _ h => h
                case s5_u60 => exact Or.inl ⟨rfl, by intro w hSw; (try dsimp only at hSw); go_simp; try with_reducible rfl⟩
                case s6_u60 => assumption
                try simp only [Act.put, List.setIfInBounds_toArray, List.set_cons_zero, List.set_cons_succ]
                have hI2 := hI.put o2 hwa hgw hok2
                clear o2
                replace hI := hI2
                clear hI2
                with_reducible refine wpAnyH_ready (rs := [12]) ?s1_u61 one_ne ?s2_u61
                case s1_u61 => kernel_rfl
                with_reducible refine AllReadyH.cons (o := ?s0_u61) (by simp only [List.getElem?_toArray, List.getElem?_cons_succ, List.getElem?_cons_zero]; exact rfl) (fun K hK => ?s3_u61) AllReadyH.nil
                go_simp
                skip
                with_reducible refine hK.out _ _ ?s1_u62 (fun hHeld => ?s2_u62)
                case s1_u62 => exact trivial
                clear hK K
                try simp only [Act.put, List.setIfInBounds_toArray, List.set_cons_zero, List.set_cons_succ]
                with_reducible refine wpAnyH_done ?s1_u63 ?s2_u63 _
                case s1_u63 => kernel_rfl
                go_wp2_with (fail)
                exact ⟨⟨k - 1, M2, _, ys2, by go_num, by omega, by omega, hI⟩, by simp [intOf]; omega⟩
      · obtain ⟨⟨m0, m1⟩, _⟩ := hI.cells
        obtain ⟨⟨d0, d1⟩, f0, f1⟩ := hI.hr.cells
        have hp := hI.hr.put M (.slice x1 ys.length y1)
        have o3 := hI.ol.kept hp.2 (dis_br (fun k hk => (hI.n4 k hk).2.2))
        have hc3 := hI.hc.kept hp.2 (fun k hk => by rw [brV_own _ k hk]; exact hI.hr.lt.1) (dis_addr (fun e => hI.n2 e.symm))
        have hB4 := below_grown hI.hB hp.2 (fun k hk => by rw [brV_own _ k hk]; exact hI.hr.lt.1) (Nat.le_refl _)
        obtain ⟨⟨n0, n1⟩, _⟩ := hp.1.cells
        have HF := Lib.hid (And.intro hI.ok (And.intro o3 (And.intro (show ∀ k, (Value.slice x1 ys.length y1).ownBlock = some k → k ≠ g from fun k hk => (hI.n4 k hk).1) (And.intro hc3 hB4))))
        clear hp o3 hc3 hB4 hI
        go_wp2_with (fail)
        (try simp only [Exit.inBlock, Exit.then])
        refine bodyPost_ret (by simp [results, Try.results41, go_sem, n0, n1]; try rfl) rfl ?_
        exact ⟨M, ys, _, rfl, HF.out⟩
end Go.Proofs.Ytfedhjfijcnpdaa
