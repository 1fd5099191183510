/- The draws of pulls, DrawHung. -/
import Derived.Test.YtfedhjfijcnpdaaDrawB2
import Derived.Test.YtfedhjfijcnpdaaHangS
namespace Go.Proofs.Ytfedhjfijcnpdaa
open Go.ChangeShapes Go.WideShapes Go.ChangeAt Go.RowKit Go.Joins Tr
set_option linter.unusedSimpArgs false
set_option linter.unusedVariables false
set_option maxRecDepth 20000

theorem grown_old {w0 w w' : World} {r q : Option Nat} (h : w0.grownBy w r) (k : w.grownBy w' q) (hq : ∀ m, q = some m → w0.heap.size ≤ m) : w0.grownBy w' r :=
  ⟨k.os.trans h.os, k.tape.trans h.tape, k.output.trans h.output, Nat.le_trans h.size k.size, fun j hj hne => (k.block j (Nat.lt_of_lt_of_le hj h.size) (fun e => by have := hq j e.symm; omega)).trans (h.block j hj hne)⟩
theorem grown_bel {w0 w w' : World} {r : Option Nat} (h : w0.grownBy w r) (k : Below w.heap.size w w') : w0.grownBy w' r :=
  ⟨k.os.trans h.os, k.tape.trans h.tape, k.output.trans h.output, Nat.le_trans h.size k.size, fun j hj hne => (k.block j (Nat.lt_of_lt_of_le hj h.size)).trans (h.block j hj hne)⟩
/-- While pulls are drawn. -/
structure PI (B : Nat) (w0 w : World) (g gx N : Nat) (zs : List LimbV) (u o : Value) (ps : List Int) : Prop where
  hx : BX w gx N u
  hR : RdLimb w u zs
  oo : OwI w w0.heap.size o ps
  hc : Cur w B g
  hg : w0.grownBy w (curV g).ownBlock
  n0 : g < w0.heap.size
  n1 : w0.heap.size ≤ gx ∧ gx < w.heap.size
  n2 : ∀ k, u.ownBlock = some k → k ≠ g ∧ k < w0.heap.size
  n3 : ∀ k, o.ownBlock = some k → k ≠ gx
  hp : ∀ p ∈ ps, -1 ≤ p ∧ p ≤ 500
section
variable {B : Nat} {w0 w w' : World} {g gx N : Nat} {zs : List LimbV} {u o : Value} {ps : List Int}
theorem PI.below (h : PI B w0 w g gx N zs u o ps) (hb : Below w.heap.size w w') : PI B w0 w' g gx N zs u o ps :=
  ⟨h.hx.below hb, h.hR.below hb, h.oo.below hb, h.hc.below hb, grown_bel h.hg hb, h.n0, by have := h.n1; have := hb.size; omega, h.n2, h.n3, h.hp⟩
theorem PI.cur (h : PI B w0 w g gx N zs u o ps) (hc : Cur w' B g) (hg : w.grownBy w' (curV g).ownBlock) : PI B w0 w' g gx N zs u o ps :=
  ⟨h.hx.keep hg (fun e => by have := brV_own _ _ e.symm; have := h.n1; have := h.n0; omega), h.hR.kept hg (dis_ocur fun k hk => (h.n2 k hk).1), h.oo.kept hg (dis_ocur fun k hk => by have := (h.oo.lt k hk).1; have := h.n0; omega), hc, grownBy_trans h.hg hg, h.n0, by have := h.n1; have := hg.size; omega, h.n2, h.n3, h.hp⟩
theorem PI.push (h : PI B w0 w g gx N zs u o ps) {v2 : Value} {q : Int} (hq : -1 ≤ q ∧ q ≤ 500) (o2 : OwI w' w0.heap.size v2 (ps ++ [q])) (hg : w.grownBy w' o.ownBlock) (hf : v2.ownBlock = o.ownBlock ∨ ∃ k, v2.ownBlock = some k ∧ w.heap.size ≤ k) : PI B w0 w' g gx N zs u v2 (ps ++ [q]) := by
  have hB := h.hc.lt'
  refine ⟨h.hx.keep hg (fun e => (h.n3 _ e.symm) rfl), h.hR.kept hg ?_, o2, h.hc.kept hg (fun k hk => by have := (h.oo.lt k hk).1; have := h.n0; omega) (dis_cur' h.oo.lt h.n0), grown_old h.hg hg (fun m hm => (h.oo.lt m hm).1), h.n0, by have := h.n1; have := hg.size; omega, h.n2, ?_, ?_⟩
  · rcases hx : u.ownBlock with _ | m
    · exact .inl hx
    · refine .inr fun e => ?_
      rw [hx] at e
      have := (h.n2 m hx).2
      have := (h.oo.lt m e.symm).1
      omega
  · intro k hk
    rcases hf with e | ⟨m, e, hm⟩
    · rw [e] at hk; exact h.n3 k hk
    · rw [e] at hk
      have := h.n1
      simp only [Option.some.injEq] at hk
      omega
  · intro p hp
    rcases List.mem_append.1 hp with hp | hp
    · exact h.hp p hp
    · simp at hp; omega
end
theorem pulls_put {N : Nat} {zs : List LimbV} {ps : List Int} (hb : bodyB N zs = true) (hN : 1 ≤ N) (hl : ps.length = N) (hp : ∀ p ∈ ps, -1 ≤ p ∧ p ≤ 500) : pullsB N zs (ps.set 0 10) = true := by
  refine pulls_ok hb (by rw [List.length_set]; omega) ?_ ?_
  · intro p h
    rcases List.mem_or_eq_of_mem_set h with h | rfl
    · exact hp p h
    · omega
  · cases ps with
    | nil => simp at hl; omega
    | cons x r => simp [strN]

set_option maxHeartbeats 4000000 in
theorem l04Pulls_any (B g N : Nat) (zs : List LimbV) (hb : bodyB N zs = true) (u : Value) (w : World) (hc : Cur w B g) (h : RdLimb w u zs) (hu : ∀ k, u.ownBlock = some k → k ≠ g ∧ k < w.heap.size) :
    Calls Try.prog 42 #[.pointer (some ⟨g, 0, none⟩), .agg #[.int .i64 N, u]] w fun e w' => ∃ (v : Value) (ps : List Int), e = .returned v ∧ pullsB N zs ps = true ∧ OwI w' w.heap.size v ps ∧ w.grownBy w' (curV g).ownBlock := by
  obtain ⟨ad, cap, rfl⟩ := h.shape
  have hN := (body_treeN hb).1
  have hb0 := below_alloc1 w (.cells #[.int .i64 N, .slice ad zs.length cap] 26)
  have hx0 := BX.new w N (.slice ad zs.length cap)
  have hsa : (w.alloc (.cells #[.int .i64 N, .slice ad zs.length cap] 26)).heap.size = w.heap.size + 1 := by simp
  have hb1 := below_alloc1 (w.alloc (.cells #[.int .i64 N, .slice ad zs.length cap] 26)) (.cells #[] 3)
  have hsb : ((w.alloc (.cells #[.int .i64 N, .slice ad zs.length cap] 26)).alloc (.cells #[] 3)).heap.size = w.heap.size + 2 := by simp
  have ho := OwI.empty_at (w.alloc (.cells #[.int .i64 N, .slice ad zs.length cap] 26)) w.heap.size (g := w.heap.size + 1) hsa.symm (by omega)
  have hI : PI B w ((w.alloc (.cells #[.int .i64 N, .slice ad zs.length cap] 26)).alloc (.cells #[] 3)) g w.heap.size N zs (.slice ad zs.length cap) (.slice (some ⟨w.heap.size + 1, 0, none⟩) 0 0) [] :=
    ⟨hx0.below hb1, (h.below hb0).below hb1, ho, (hc.below hb0).below hb1, grown_bel (grown_bel (World.grownBy.refl _ _) hb0) hb1, hc.lt'.2, by omega, hu, fun k hk => by simp [Value.ownBlock] at hk; omega, by simp⟩
  have HI := Lib.hid hI
  have HBO := Lib.hid (fun w' h => specBodyOk_any N zs (.slice ad zs.length cap) w' h)
  rw [hb] at HBO
  have HPU := Lib.hid (fun ps hl hp => pulls_put (ps := ps) hb hN.1 hl hp)
  clear hb0 hx0 h hb hb1 hsa hsb ho hI hc
  go_enter Try.func42, Try.ntmps42
  go_wp2_with (fail)
  generalize (w.alloc (.cells #[.int .i64 N, .slice ad zs.length cap] 26)).alloc (.cells #[] 3) = w1 at HI ⊢
  have hI := HI.out
  clear HI
  go_loopw [5, 6] (fun o j wr => ∃ (q : Nat) (ps : List Int), q ≤ N ∧ j = .int .i64 q ∧ ps.length = q ∧ PI B w wr g w.heap.size N zs (.slice ad zs.length cap) o ps) (fun _ j _ => N - (intOf j).toNat)
  case atStart => exact ⟨0, [], Nat.zero_le _, rfl, rfl, hI⟩
  case round =>
   focus
    clear hI
    obtain ⟨q, ps, hq, rfl, hpl, hI⟩ := hrel
    have HPL := Lib.hid hpl
    clear hpl
    obtain ⟨m0, m1⟩ := id hI.hx
    by_cases hlt : q < N
    · have qlt : (q : Int) < (N : Int) := by omega
      have q20 : (q : Int) < 20 := by omega
      go_wp2_with (fail)
      refine (l01Below_any _ g 40 (by omega) _ hI.hc).mono ?_
      rintro e w2 ⟨x, rfl, x0, x1, _, hc2, hg⟩
      replace hI := hI.cur hc2 hg
      replace x1 := x1 (by omega)
      clear hc2 hg m0 m1
      go_wp2_with (fail)
      refine (l01Once_any _ g 2 (by omega) _ hI.hc).mono ?_
      rintro e w3 ⟨b, rfl, hc3, hg⟩
      replace hI := hI.cur hc3 hg
      clear hc3 hg
      have hpl20 : ps.length ≤ 20 := by have := HPL.out; omega
      have hws := hI.hg.size
      have hoo := hI.oo
      have HII := Lib.hid hI
      clear hI
      cases b with
      | true =>
        go_wp2_with (at_builtin; refine wpList_pushI rfl (.tmp 24) (.tmp 26) rfl _ _ w.heap.size _ _ rfl hoo rfl (by omega) hws ?_; intro v2 w6 o2 hgr hfr; have hI2 := HII.out.push (by omega) o2 hgr hfr; clear hgr hfr)
        exact ⟨⟨q + 1, ps ++ [-1], by omega, by go_num, by simp; exact HPL.out, hI2⟩, by simp [intOf]; omega⟩
      | false =>
        go_wp2_with (at_builtin; refine wpList_pushI rfl (.tmp 24) (.tmp 26) rfl _ _ w.heap.size _ _ rfl hoo rfl (by omega) hws ?_; intro v2 w6 o2 hgr hfr; have hI2 := HII.out.push (q := x - 1) (by omega) o2 hgr hfr; clear hgr hfr)
        exact ⟨⟨q + 1, ps ++ [x - 1], by omega, by go_num, by simp; exact HPL.out, hI2⟩, by simp [intOf]; omega⟩
    · obtain rfl : q = N := by omega
      have hpl1 : 1 ≤ ps.length := by have := HPL.out; omega
      have hpl0 : (0 : Int) < (ps.length : Int) := by omega
      have HPT := Lib.hid (HPU.out ps HPL.out hI.hp)
      have HPB := Lib.hid (fun v w' h h' => specPullsOk_any q zs ps (.slice ad zs.length cap) v w' h h')
      rcases hI.oo.slice with ⟨_, h0⟩ | ⟨go, co, rfl, hgo, hgw, hco, hmo⟩
      · rw [h0] at hpl1
        simp at hpl1
      · go_wp2_with (fail)
        refine (HBO.out _ hI.hR).mono ?_
        rintro e w2 ⟨rfl, hb⟩
        replace hI := hI.below hb
        clear hb m0 m1
        obtain ⟨m0, m1⟩ := id hI.hx
        go_wp2_with (fail)
        refine (HPB.out _ _ hI.hR hI.oo.rd).mono ?_
        rintro e w3 ⟨rfl, hb⟩
        replace hI := hI.below hb
        clear hb m0 m1
        cases hpb : pullsB q zs ps with
        | true =>
          have HP2 := Lib.hid hpb
          have HF := Lib.hid (And.intro hI.oo hI.hg)
          clear hI hpb
          go_wp2_with (fail)
          go_ret
          exact ⟨_, ps, rfl, HP2.out, HF.out⟩
        | false =>
          obtain ⟨c0, f0⟩ := hI.oo.cell (k := 0) (by omega)
          have hs := hI.oo.set 0 10
          have HF := Lib.hid (And.intro hs.1 (grown_old hI.hg hs.2 (fun m hm => (hI.oo.lt m (by simpa [Value.ownBlock] using hm)).1)))
          clear hI hs hpb
          go_wp2_with (fail)
          go_ret
          exact ⟨_, ps.set 0 10, rfl, HPT.out, by simpa using HF.out.1, HF.out.2⟩

set_option maxHeartbeats 2000000 in
theorem drawHung_any (n : Nat) (v : Value) (w : World) (h : RdB w w.heap.size v n) :
    Calls Try.prog 11 #[v] w fun e w' => ∃ (N : Nat) (zs : List LimbV) (ps : List Int) (u x : Value), e = .returned (.tuple #[.agg #[.int .i64 N, u], x]) ∧ pullsB N zs ps = true ∧ OwLimb w' w.heap.size u zs ∧ OwI w' w.heap.size x ps ∧ Below w.heap.size w w' := by
  have hb0 := below_alloc1 w (.cells #[.int .i64 0, .slice none 0 0] 26)
  have hr := BR.made w w.heap.size (Nat.le_refl _) 0 (.slice none 0 0)
  have hs0 : (w.alloc (.cells #[.int .i64 0, .slice none 0 0] 26)).heap.size = w.heap.size + 1 := by simp
  have hrd := (h.below hb0).up (show w.heap.size ≤ (w.alloc (.cells #[.int .i64 0, .slice none 0 0] 26)).heap.size by omega)
  have HS := Lib.hid (And.intro hr (And.intro hrd hb0))
  obtain ⟨av, cv, rfl, _⟩ := h.shape
  clear hb0 hr hrd h
  go_enter Try.func11, Try.ntmps11
  go_wp2_with (fail)
  generalize w.alloc (.cells #[.int .i64 0, .slice none 0 0] 26) = W0 at HS hs0 ⊢
  obtain ⟨hr, hrd, hB0⟩ := HS.out
  clear HS
  refine (l01New_any n _ _ hrd).mono ?_
  rintro e w1 ⟨g, rfl, hc, hb⟩
  have hB1 := hb
  clear hb hrd
  go_wp2_with (fail)
  refine (l02Body_any W0 g w1 hc hB1).mono ?_
  rintro e w2 ⟨M, ys, u, rfl, hok, ol, hug, hc2, hB2⟩
  replace hr := hr.below hB2
  have hB := bvia hB0 hB2
  have hgl := hc2.lt'
  obtain ⟨x1, y1, rfl⟩ := ol.rd.shape
  have hwz := hB2.size
  clear hc hB1 hB0 hB2
  have hba := below_alloc1 w2 (.cells #[.int .i64 M, .slice x1 ys.length y1] 26)
  have hX := BX.new w2 M (.slice x1 ys.length y1)
  have hsx : w2.heap.size < (w2.alloc (.cells #[.int .i64 M, .slice x1 ys.length y1] 26)).heap.size := by simp
  have HI := Lib.hid (And.intro hX (And.intro (hr.below hba) (And.intro (hc2.below hba) (And.intro (bvia hB hba) (And.intro (ol.below hba) hsx)))))
  have hol := ol.lt
  clear hba hX hr hc2 hB ol hsx
  go_wp2_with (fail)
  generalize w2.alloc (.cells #[.int .i64 M, .slice x1 ys.length y1] 26) = w3 at HI ⊢
  obtain ⟨hX, hr, hc, hB, ol, hsx⟩ := HI.out
  clear HI
  replace hX := hX.below (dr1 _).below
  replace hr := hr.below (dr1 _).below
  replace hc := hc.below (dr1 _).below
  replace ol := ol.below (dr1 _).below
  replace hB := bvia hB (dr1 _).below
  have hsd : w3.drew.heap.size = w3.heap.size := rfl
  with_reducible refine region_beg (n := 6) (S := (fun w' => w'.cell? ⟨w2.heap.size, 0, none⟩ = some (.int .i64 (M : Int)) ∧ w'.cell? ⟨w2.heap.size, 1, none⟩ = some (.slice x1 ys.length y1))) ?b1_u1 ?b2_u1 ?b3_u1 (fun hHeld => ?b4_u1)
  case b1_u1 => kernel_rfl
  case b2_u1 => kernel_rfl
  case b3_u1 => (try dsimp only); first | exact hX4 | exact hX
  with_reducible refine takeI2 (i := 0) (v := ?sv_u2) (oi := ?s0_u2) (by simp only [List.getElem?_toArray, List.getElem?_cons_succ, List.getElem?_cons_zero]; exact rfl) ?s1_u2 ?s2_u2 ?s3_u2 ?s4_u2 ?s5_u2 ?s6_u2 ?s7_u2
  case s1_u2 => kernel_rfl
  case s2_u2 => kernel_rfl
  case s3_u2 => kernel_rfl
  case s4_u2 => exact fun _ _ _ h => h
  case s5_u2 => exact Or.inl ⟨rfl, by intro w hSw; (try dsimp only at hSw); go_simp; try with_reducible rfl⟩
  case s6_u2 => assumption
  try simp only [Act.put, List.setIfInBounds_toArray, List.set_cons_zero, List.set_cons_succ]
  with_reducible refine takeI2 (i := 1) (v := ?sv_u3) (oi := ?s0_u3) (by simp only [List.getElem?_toArray, List.getElem?_cons_succ, List.getElem?_cons_zero]; exact rfl) ?s1_u3 ?s2_u3 ?s3_u3 ?s4_u3 ?s5_u3 ?s6_u3 ?s7_u3
  case s1_u3 => kernel_rfl
  case s2_u3 => kernel_rfl
  case s3_u3 => kernel_rfl
  case s4_u3 => exact fun _ _ _ h => h
  case s5_u3 => exact Or.inl ⟨rfl, by intro w hSw; (try dsimp only at hSw); go_simp; try with_reducible rfl⟩
  case s6_u3 => assumption
  try simp only [Act.put, List.setIfInBounds_toArray, List.set_cons_zero, List.set_cons_succ]
  with_reducible refine takeI2 (i := 2) (v := ?sv_u4) (oi := ?s0_u4) (by simp only [List.getElem?_toArray, List.getElem?_cons_succ, List.getElem?_cons_zero]; exact rfl) ?s1_u4 ?s2_u4 ?s3_u4 ?s4_u4 ?s5_u4 ?s6_u4 ?s7_u4
  case s1_u4 => kernel_rfl
  case s2_u4 => kernel_rfl
  case s3_u4 => kernel_rfl
  case s4_u4 => exact fun _ _ _ h => h
  case s5_u4 => exact Or.inl ⟨rfl, by intro w hSw; (try dsimp only at hSw); go_simp; try with_reducible rfl⟩
  case s6_u4 => assumption
  try simp only [Act.put, List.setIfInBounds_toArray, List.set_cons_zero, List.set_cons_succ]
  with_reducible refine wpAnyH_ready (rs := [3]) ?s1_u5 one_ne ?s2_u5
  case s1_u5 => kernel_rfl
  with_reducible refine AllReadyH.cons (o := ?s0_u5) (by simp only [List.getElem?_toArray, List.getElem?_cons_succ, List.getElem?_cons_zero]; exact rfl) (fun K hK => ?s3_u5) AllReadyH.nil
  go_simp
  refine (l04Pulls_any _ g M ys hok _ _ hc ol.rd (fun k hk => ⟨hug k hk, by have := (hol k hk).2; omega⟩)).mono ?_
  rintro e w4 ⟨xv, ps, rfl, hpu, op, hg⟩
  have hrl := hr.lt
  replace hX := hX.keep hg (fun e => by have := brV_own _ _ e.symm; omega)
  replace hr := hr.kept hg (dis_brcur (by omega))
  replace ol := ol.kept hg (dis_ocur hug)
  have hBs := hB.size
  replace hB := below_cur hB hg (by omega) hBs
  obtain ⟨x2, y2, rfl⟩ := op.rd.shape
  clear hg hc
  obtain ⟨⟨d0, d1⟩, f0, f1⟩ := hr.cells
  have hp := hr.put M (.slice x1 ys.length y1)
  have o3 := (ol.kept hp.2 (dis_br (fun k hk => by have := (hol k hk).1; omega))).base (show w.heap.size ≤ W0.heap.size by omega)
  have o4 := (op.kept hp.2 (dis_br (fun k hk => by have := (op.lt k hk).1; omega))).base hBs
  have hB4 := below_grown hB hp.2 (fun k hk => by rw [brV_own _ k hk]; exact Nat.le_refl _) (Nat.le_refl _)
  obtain ⟨⟨n0, n1⟩, _⟩ := hp.1.cells
  have hX4 := hX.keep hp.2 (fun e => by have := brV_own _ _ e.symm; omega)
  have HF := Lib.hid (And.intro hpu (And.intro o3 (And.intro o4 hB4)))
  clear hp o3 o4 hB4 ol op hr hB hrl
  go_wp2_with fail
  with_reducible refine hK.out _ _ ?s1_u6 (fun hHeld => ?s2_u6)
  case s1_u6 => (try dsimp only); first | exact hX4 | exact hX
  clear hK K
  try simp only [Act.put, List.setIfInBounds_toArray, List.set_cons_zero, List.set_cons_succ]
  with_reducible refine wpAnyH_ready (rs := [4]) ?s1_u7 one_ne ?s2_u7
  case s1_u7 => kernel_rfl
  with_reducible refine AllReadyH.cons (o := ?s0_u7) (by simp only [List.getElem?_toArray, List.getElem?_cons_succ, List.getElem?_cons_zero]; exact rfl) (fun K hK => ?s3_u7) AllReadyH.nil
  go_simp
  skip
  with_reducible refine hK.out _ _ ?s1_u8 (fun hHeld => ?s2_u8)
  case s1_u8 => (try dsimp only); first | exact hX4 | exact hX
  clear hK K
  try simp only [Act.put, List.setIfInBounds_toArray, List.set_cons_zero, List.set_cons_succ]
  with_reducible refine takeI2 (i := 5) (v := ?sv_u9) (oi := ?s0_u9) (by simp only [List.getElem?_toArray, List.getElem?_cons_succ, List.getElem?_cons_zero]; exact rfl) ?s1_u9 ?s2_u9 ?s3_u9 ?s4_u9 ?s5_u9 ?s6_u9 ?s7_u9
  case s1_u9 => kernel_rfl
  case s2_u9 => kernel_rfl
  case s3_u9 => kernel_rfl
  case s4_u9 => exact fun _ _ _ h => h
  case s5_u9 => exact Or.inl ⟨rfl, by intro w hSw; (try dsimp only at hSw); go_simp; try with_reducible rfl⟩
  case s6_u9 => assumption
  try simp only [Act.put, List.setIfInBounds_toArray, List.set_cons_zero, List.set_cons_succ]
  with_reducible refine wpAnyH_done ?s1_u10 ?s2_u10 _
  case s1_u10 => kernel_rfl
  go_wp2_with (fail)
  (try simp only [Exit.inBlock, Exit.then])
  refine bodyPost_ret (by simp [results, Try.results11, go_sem, n0, n1]; try rfl) rfl ?_
  exact ⟨M, ys, ps, _, _, rfl, HF.out⟩
end Go.Proofs.Ytfedhjfijcnpdaa
