/- The walks of CircleIn and CuesOk, program and reference. -/
import Derived.Test.YtkkcglncjdoacaaDoorSWaits
import Derived.Test.YtkkcglncjdoacaaDoorStrict
namespace Go.Proofs.YtkkcglncjdoacaaDoor
open Go.ChangeShapes Go.WideShapes Go.ChangeAt Go.RowKit Go.Joins
set_option maxRecDepth 20000
set_option linter.unusedSimpArgs false
set_option linter.unusedVariables false

/-- The cues that wait for themselves, from i on. -/
def circL (R : Mx) : Nat → Nat → List Int
  | _, 0 => []
  | i, c + 1 => (if R i i = true then [(i : Int)] else []) ++ circL R (i + 1) c
theorem circL_step (R : Mx) {i n : Nat} (h : i < n) : circL R i (n - i) = (if R i i = true then [(i : Int)] else []) ++ circL R (i + 1) (n - (i + 1)) := by
  rw [show n - i = (n - (i + 1)) + 1 by omega]
  rfl
theorem circL_end (R : Mx) {i n : Nat} (h : n ≤ i) : circL R i (n - i) = [] := by
  rw [show n - i = 0 by omega]
  rfl
theorem circL_len (R : Mx) : ∀ c i, (circL R i c).length ≤ c := by
  intro c
  induction c with
  | zero => intro i; exact Nat.le_refl _
  | succ c ih =>
    intro i
    have := ih (i + 1)
    simp only [circL, List.length_append]
    split <;> simp <;> omega
def circF (zs : List CueV) : List Int := circL (waitsF zs) 0 zs.length
set_option maxHeartbeats 1600000 in
theorem implCircleIn_any (zs : List CueV) (hn : zs.length ≤ 12) (hA : ∀ z ∈ zs, ∀ x ∈ z.2.1, 0 ≤ x ∧ x ≤ (zs.length : Int) - 1) (v : Value) (w : World) (h : RdCue w v zs) :
    Calls Tryd.prog 62 #[v] w fun e w' => ∃ u, e = .returned u ∧ OwI w' w.heap.size u (circF zs) ∧ Below w.heap.size w w' := by
  obtain ⟨ad, cap, rfl, hmax⟩ := h.shape
  have HR := Lib.hid h
  clear h
  go_enter Tryd.func62, Tryd.ntmps62
  go_wp2_with (fail)
  refine (implWaits_any zs hn hA _ _ HR.out).mono ?_
  rintro e w1 ⟨G, gs, rfl, hM, hb⟩
  have HM := Lib.hid hM
  have HE := Lib.hid (OwI.empty w1 w1.heap.size (Nat.le_refl _))
  have hb1 := below_alloc1 w1 (.cells #[] 3)
  have hbs := hb.size
  obtain ⟨n, hnn⟩ : ∃ n, zs.length = n := ⟨_, rfl⟩
  have HC : Hid (circL (waitsF zs) 0 (n - 0) = circF zs) := by show _ = _; rw [← hnn]; rfl
  rw [hnn] at HM hmax hn ⊢
  clear hM hnn
  have HCL := Lib.hid (circL_len (waitsF zs))
  generalize waitsF zs = R at HM HC HCL
  go_wp2_with (fail)
  go_loopw [4, 14] (fun u i wr => ∃ (k : Nat) (A : List Int), k ≤ n ∧ i = .int .i64 k ∧ OwI wr w1.heap.size u A ∧ A.length ≤ k ∧ Below w1.heap.size w1 wr ∧ Hid (A ++ circL R k (n - k) = circF zs)) (fun _ i _ => n - (intOf i).toNat)
  case atStart => exact ⟨0, [], Nat.zero_le _, rfl, HE.out, Nat.le_refl _, hb1, HC.out⟩
  case round =>
    clear HE hb1 HC
    obtain ⟨k, A, hk, rfl, ho, hA2, hB, H⟩ := hrel
    by_cases hlt : k < n
    · have hstep := H.out
      rw [circL_step R hlt] at hstep
      obtain ⟨hoc, _⟩ := HM.out.outer hlt
      rw [if_pos hlt] at hoc
      obtain ⟨hcc, _⟩ := HM.out.cell hlt hlt
      have hoc2 := cell_on hB hoc
      have hcc2 := cell_on hB hcc
      clear hoc hcc H
      cases hR : R k k with
      | true =>
        rw [hR] at hcc2 hstep
        have HS := Lib.hid hstep
        clear hstep
        go_wp2_with (at_builtin; refine wpList_pushI rfl (.tmp 24) (.tmp 26) rfl _ _ w1.heap.size _ _ rfl ho rfl (by omega) hB.size ?_; intro v2 w2 o2 hgr _; have hB2 := ho.grown_below hB (Nat.le_refl _) hgr; clear hgr)
        exact ⟨⟨k + 1, A ++ [(k : Int)], by omega, by go_num, o2, by simp; omega, hB2, by show _ = _; rw [← HS.out]; simp⟩, by simp [intOf]; omega⟩
      | false =>
        rw [hR] at hcc2 hstep
        have HS := Lib.hid hstep
        clear hstep
        go_wp2_with (fail)
        exact ⟨⟨k + 1, A, by omega, by go_num, ho, by omega, hB, by show _ = _; rw [← HS.out]; simp⟩, by simp [intOf]; omega⟩
    · have hfin := H.out
      rw [circL_end R (by omega), List.append_nil] at hfin
      have HF := Lib.hid hfin
      clear hfin
      go_wp2_with (fail)
      go_ret
      exact ⟨_, rfl, by rw [← HF.out]; exact ho.base hbs, bvia hb hB⟩
set_option maxHeartbeats 1600000 in
theorem specCircleIn_any (zs : List CueV) (hn : zs.length ≤ 12) (hA : ∀ z ∈ zs, ∀ x ∈ z.2.1, 0 ≤ x ∧ x ≤ (zs.length : Int) - 1) (v : Value) (w : World) (h : RdCue w v zs) :
    Calls Tryd.prog 61 #[v] w fun e w' => ∃ u, e = .returned u ∧ OwI w' w.heap.size u (circF zs) ∧ Below w.heap.size w w' := by
  obtain ⟨ad, cap, rfl, hmax⟩ := h.shape
  have hb0 := below_alloc1 w (.cells #[] 3)
  have HR := Lib.hid (h.below hb0)
  have HE := Lib.hid (OwI.empty w w.heap.size (Nat.le_refl _))
  clear h
  go_enter Tryd.func61, Tryd.ntmps61
  go_wp2_with (fail)
  refine (specWaits_any zs hn hA _ _ HR.out).mono ?_
  rintro e w1 ⟨rfl, ⟨X, oX, hX⟩, hb⟩
  have ho := HE.out.below hb
  have hB1 := bvia hb0 hb
  obtain ⟨n, hnn⟩ : ∃ n, zs.length = n := ⟨_, rfl⟩
  have HC : Hid (circL (waitsF zs) 0 (n - 0) = circF zs) := by show _ = _; rw [← hnn]; rfl
  rw [hnn] at oX hX hmax hn ⊢
  have hgs : (w.alloc (.cells #[] 3)).heap.size = w.heap.size + 1 := by simp
  rw [hgs] at oX ⊢
  have hls : w.heap.size + 1 < w1.heap.size := (oX.lt _ rfl).2
  have HX := Lib.hid hX
  have HOX := Lib.hid (And.intro oX (And.intro ho hB1))
  clear hnn hb hb0 HE hX oX ho hB1 hgs HR
  generalize waitsF zs = R at HX HC
  go_wp2_with (fail)
  go_loopw [3, 5] (fun u i wr => ∃ (k : Nat) (A : List Int), k ≤ n ∧ i = .int .i64 k ∧ OwI wr w.heap.size u A ∧ A.length ≤ k ∧ Below w.heap.size w wr ∧ Hid (OwI wr (w.heap.size + 1) (.slice (some ⟨w.heap.size + 1, 0, none⟩) n n) (mapR n fun i => (X i : Int))) ∧ Dis (.slice (some ⟨w.heap.size + 1, 0, none⟩) n n) u ∧ Hid (A ++ circL R k (n - k) = circF zs)) (fun _ i _ => n - (intOf i).toNat)
  case atStart => exact ⟨0, [], Nat.zero_le _, rfl, HOX.out.2.1, Nat.le_refl _, HOX.out.2.2, HOX.out.1, dis_addr (by omega), HC.out⟩
  case round =>
    clear HOX HC
    obtain ⟨k, A, hk, rfl, ho, hA2, hB, HO, hdis, H⟩ := hrel
    by_cases hlt : k < n
    · have hstep := H.out
      rw [circL_step R hlt] at hstep
      obtain ⟨hcc, _⟩ := HO.out.cell (k := k) (by rw [mapR_length]; exact hlt)
      rw [mapR_getD _ hlt] at hcc
      have hXk := (HX.out k hlt).1
      have hbt := bit_test (m := k) hXk
      rw [(HX.out k hlt).2 k, decide_eq_true hlt, Bool.true_and] at hbt
      generalize X k = xk at hcc hbt hXk
      have q1 : (k : Int) < (n : Int) := by omega
      clear H
      cases hR : R k k with
      | true =>
        rw [hR] at hstep hbt
        rw [if_pos rfl] at hbt
        have HS := Lib.hid hstep
        clear hstep
        go_wp2_with (at_builtin; refine wpList_pushI rfl (.tmp 27) (.tmp 29) rfl _ _ w.heap.size _ _ rfl ho rfl (by omega) hB.size ?_; intro v2 w2 o2 hgr hfr; have hB2 := ho.grown_below hB (Nat.le_refl _) hgr; have HO2 := Lib.hid (HO.out.kept hgr hdis); have hgl := (HO.out.lt (w.heap.size + 1) rfl).2; clear hgr)
        have hdis2 : Dis (.slice (some ⟨w.heap.size + 1, 0, none⟩) n n) v2 := by
          rcases hfr with h | ⟨q, h, hq⟩
          · rcases hdis with h' | h'
            · exact .inl h'
            · exact .inr (by rw [h]; exact h')
          · exact .inr (by rw [h]; simp [Value.ownBlock]; omega)
        exact ⟨⟨k + 1, A ++ [(k : Int)], by omega, by go_num, o2, by simp; omega, hB2, HO2, hdis2, by show _ = _; rw [← HS.out]; simp⟩, by simp [intOf]; omega⟩
      | false =>
        rw [hR] at hstep hbt
        rw [if_neg (by simp)] at hbt
        have HS := Lib.hid hstep
        clear hstep
        go_wp2_with (fail)
        exact ⟨⟨k + 1, A, by omega, by go_num, ho, by omega, hB, HO.out, hdis, by show _ = _; rw [← HS.out]; simp⟩, by simp [intOf]; omega⟩
    · have hfin := H.out
      rw [circL_end R (by omega), List.append_nil] at hfin
      have HF := Lib.hid hfin
      clear hfin
      go_wp2_with (fail)
      go_ret
      exact ⟨_, rfl, by rw [← HF.out]; exact ho, hB⟩
def cueB (n : Int) (z : CueV) : Bool := inB z.1 1 50 && risesB z.2.1 0 (n - 1) && risesB z.2.2 0 6
def cuesB (zs : List CueV) : Bool := inB (zs.length : Int) 1 12 && zs.all (cueB zs.length) && decide ((circF zs).length = 0)
theorem cueB_after {zs : List CueV} (h : zs.all (cueB zs.length) = true) : ∀ z ∈ zs, ∀ x ∈ z.2.1, 0 ≤ x ∧ x ≤ (zs.length : Int) - 1 := by
  intro z hz x hx
  have := List.all_eq_true.1 h z hz
  simp only [cueB, risesB, Bool.and_eq_true] at this
  exact allB_mem this.1.2.2 x hx
set_option maxHeartbeats 1600000 in
theorem implCuesOk_any (zs : List CueV) (v : Value) (w : World) (h : RdCue w v zs) :
    Calls Tryd.prog 48 #[v] w fun e w' => e = .returned (.bool (cuesB zs)) ∧ Below w.heap.size w w' := by
  have cw : ∀ (x lo hi : Int) (b : Bool), inB x lo hi = b → ∀ u, Calls Tryd.prog 45 #[.int .i64 x, .int .i64 lo, .int .i64 hi] u fun e w' => e = .returned (.bool b) ∧ u = w' := fun x lo hi b hb u => by have := within_any x lo hi u; rwa [hb] at this
  have HR := Lib.hid h
  obtain ⟨ad, cap, bl, off, rfl, hcap, hmax, had, hc⟩ := h
  have HC := Lib.hid hc
  clear hc
  cases hg : inB (zs.length : Int) 1 12 with
  | false =>
    go_enter Tryd.func48, Tryd.ntmps48
    go_wp2_with (fail)
    refine (cw _ _ _ _ hg _).mono ?_
    rintro e w9 ⟨rfl, rfl⟩
    go_wp2_with (fail)
    go_ret
    exact ⟨ret_bool (by simp [cuesB, hg]), Below.refl _ _⟩
  | true =>
    have hn := inB_true.1 hg
    have HV : Hid (cuesB zs = (zs.all (cueB zs.length) && decide ((circF zs).length = 0))) := by show _ = _; simp [cuesB, hg]
    go_enter Tryd.func48, Tryd.ntmps48
    go_wp2_with (fail)
    refine (cw _ _ _ _ hg _).mono ?_
    rintro e w9 ⟨rfl, rfl⟩
    go_wp2_with (fail)
    go_loopw [11] (fun i wr => ∃ k : Nat, k ≤ zs.length ∧ i = .int .i64 k ∧ Below w.heap.size w wr ∧ Hid ((zs.drop k).all (cueB zs.length) = zs.all (cueB zs.length))) (fun i _ => zs.length - (intOf i).toNat)
    case atStart => exact ⟨0, Nat.zero_le _, rfl, Below.refl _ _, rfl⟩
    case round =>
      obtain ⟨k, hk, rfl, hB, H⟩ := hrel
      by_cases hlt : k < zs.length
      · obtain rfl := had (by omega)
        obtain ⟨⟨t, a, p⟩, hz, hzm, hd, _⟩ := getC hlt
        obtain ⟨u1, u2, k0, k1, k2, r1, r2⟩ := HC.out k _ hz
        replace k0 := cell_on hB k0
        replace k1 := cell_on hB k1
        replace k2 := cell_on hB k2
        dsimp only at k0 r1 r2
        obtain ⟨a1, c1', rfl⟩ := r1.shape
        obtain ⟨a2, c2', rfl⟩ := r2.shape
        have HD := Lib.hid hd
        have hb1 := below_alloc1 wr (.cells #[.int .i64 t, .slice a1 a.length c1', .slice a2 p.length c2'] 31)
        have hB2 := bvia hB hb1
        have c2 : (wr.alloc (.cells #[.int .i64 t, .slice a1 a.length c1', .slice a2 p.length c2'] 31)).cell? ⟨wr.heap.size, 2, none⟩ = some (.slice a2 p.length c2') := by simp [go_sem]
        replace r1 := r1.below hB
        replace r2 := (r2.below hB).below hb1
        have q1 : (k : Int) < (zs.length : Int) := by omega
        clear hz hd hzm
        cases h0 : inB t 1 50 with
        | false =>
          go_wp2_with (fail)
          refine (cw t _ _ _ h0 _).mono ?_
          rintro e w9 ⟨rfl, rfl⟩
          go_wp2_with (fail)
          go_ret
          exact ⟨ret_bool (by rw [HV.out, ← H.out, HD.out, List.all_cons]; simp [cueB, h0]), hB2⟩
        | true =>
          go_wp2_with (fail)
          refine (cw t _ _ _ h0 _).mono ?_
          rintro e w9 ⟨rfl, rfl⟩
          cases h1 : risesB a 0 ((zs.length : Int) - 1) with
          | false =>
            go_wp2_with (fail)
            refine (isStrict_any a 0 ((zs.length : Int) - 1) _ _ (r1.below hb1)).mono ?_
            rintro e wx ⟨he, hd⟩
            obtain rfl : e = .returned (.bool false) := by rw [he, h1]
            replace hB2 := bvia hB2 hd.below
            clear he hd
            go_wp2_with (fail)
            go_ret
            exact ⟨ret_bool (by rw [HV.out, ← H.out, HD.out, List.all_cons]; simp [cueB, h0, h1]), hB2⟩
          | true =>
            go_wp2_with (fail)
            refine (isStrict_any a 0 ((zs.length : Int) - 1) _ _ (r1.below hb1)).mono ?_
            rintro e wx ⟨he, hd⟩
            obtain rfl : e = .returned (.bool true) := by rw [he, h1]
            replace c2 := hd.cell c2
            replace r2 := r2.below hd.below
            replace hB2 := bvia hB2 hd.below
            clear he hd
            cases h2 : risesB p 0 6 with
            | false =>
              go_wp2_with (fail)
              refine (isStrict_any p 0 6 _ _ r2).mono ?_
              rintro e wx ⟨he, hd⟩
              obtain rfl : e = .returned (.bool false) := by rw [he, h2]
              replace hB2 := bvia hB2 hd.below
              clear he hd
              go_wp2_with (fail)
              go_ret
              exact ⟨ret_bool (by rw [HV.out, ← H.out, HD.out, List.all_cons]; simp [cueB, h0, h1, h2]), hB2⟩
            | true =>
              go_wp2_with (fail)
              refine (isStrict_any p 0 6 _ _ r2).mono ?_
              rintro e wx ⟨he, hd⟩
              obtain rfl : e = .returned (.bool true) := by rw [he, h2]
              replace hB2 := bvia hB2 hd.below
              clear he hd
              go_wp2_with (fail)
              exact ⟨⟨k + 1, by omega, by go_num, hB2, by show _ = _; rw [← H.out, HD.out, List.all_cons]; simp [cueB, h0, h1, h2]⟩, by simp [intOf]; omega⟩
      · have hall : zs.all (cueB zs.length) = true := by
          rw [← H.out, List.drop_eq_nil_of_le (by omega)]
          rfl
        have HL := Lib.hid hall
        have hA := cueB_after hall
        clear hall H
        go_wp2_with (fail)
        refine (implCircleIn_any zs (by omega) hA _ _ (HR.out.below hB)).mono ?_
        rintro e w2 ⟨u, rfl, o2, hb⟩
        obtain ⟨A2, cp2, rfl, _, _, _⟩ := o2.form
        replace hB := bvia hB hb
        clear hb o2 hA
        have hbq : (((circF zs).length : Int) == 0) = decide ((circF zs).length = 0) := by
          by_cases e : (circF zs).length = 0
          · rw [e]; rfl
          · rw [decide_eq_false e]; exact beq_eq_false_iff_ne.2 (by omega)
        have HQ : Hid (cuesB zs = decide ((circF zs).length = 0)) := by show _ = _; rw [HV.out, HL.out, Bool.true_and]
        generalize (circF zs).length = q at hbq HQ ⊢
        go_wp2_with (fail)
        go_ret
        exact ⟨ret_bool HQ.out.symm, hB⟩
set_option maxHeartbeats 1600000 in
theorem specCuesOk_any (zs : List CueV) (v : Value) (w : World) (h : RdCue w v zs) :
    Calls Tryd.prog 47 #[v] w fun e w' => e = .returned (.bool (cuesB zs)) ∧ Below w.heap.size w w' := by
  have cw : ∀ (x lo hi : Int) (b : Bool), inB x lo hi = b → ∀ u, Calls Tryd.prog 43 #[.int .i64 x, .int .i64 lo, .int .i64 hi] u fun e w' => e = .returned (.bool b) ∧ u = w' := fun x lo hi b hb u => by have := l01In_any x lo hi u; rwa [hb] at this
  have HR := Lib.hid h
  obtain ⟨ad, cap, bl, off, rfl, hcap, hmax, had, hc⟩ := h
  have HC := Lib.hid hc
  clear hc
  cases hg : inB (zs.length : Int) 1 12 with
  | false =>
    go_enter Tryd.func47, Tryd.ntmps47
    go_wp2_with (fail)
    refine (cw _ _ _ _ hg _).mono ?_
    rintro e w9 ⟨rfl, rfl⟩
    go_wp2_with (fail)
    go_ret
    exact ⟨ret_bool (by simp [cuesB, hg]), Below.refl _ _⟩
  | true =>
    have hn := inB_true.1 hg
    have HV : Hid (cuesB zs = (zs.all (cueB zs.length) && decide ((circF zs).length = 0))) := by show _ = _; simp [cuesB, hg]
    go_enter Tryd.func47, Tryd.ntmps47
    go_wp2_with (fail)
    refine (cw _ _ _ _ hg _).mono ?_
    rintro e w9 ⟨rfl, rfl⟩
    go_wp2_with (fail)
    go_loopw [3] (fun i wr => ∃ k : Nat, k ≤ zs.length ∧ i = .int .i64 k ∧ Below w.heap.size w wr ∧ Hid ((zs.drop k).all (cueB zs.length) = zs.all (cueB zs.length))) (fun i _ => zs.length - (intOf i).toNat)
    case atStart => exact ⟨0, Nat.zero_le _, rfl, Below.refl _ _, rfl⟩
    case round =>
      obtain ⟨k, hk, rfl, hB, H⟩ := hrel
      by_cases hlt : k < zs.length
      · obtain rfl := had (by omega)
        obtain ⟨⟨t, a, p⟩, hz, hzm, hd, _⟩ := getC hlt
        obtain ⟨u1, u2, k0, k1, k2, r1, r2⟩ := HC.out k _ hz
        replace k0 := cell_on hB k0
        replace k1 := cell_on hB k1
        replace k2 := cell_on hB k2
        dsimp only at k0 r1 r2
        obtain ⟨a1, c1', rfl⟩ := r1.shape
        obtain ⟨a2, c2', rfl⟩ := r2.shape
        have HD := Lib.hid hd
        have hb1 := below_alloc1 wr (.cells #[.int .i64 t, .slice a1 a.length c1', .slice a2 p.length c2'] 31)
        have hB2 := bvia hB hb1
        have c2 : (wr.alloc (.cells #[.int .i64 t, .slice a1 a.length c1', .slice a2 p.length c2'] 31)).cell? ⟨wr.heap.size, 2, none⟩ = some (.slice a2 p.length c2') := by simp [go_sem]
        replace r1 := r1.below hB
        replace r2 := (r2.below hB).below hb1
        have q1 : (k : Int) < (zs.length : Int) := by omega
        clear hz hd hzm
        cases h0 : inB t 1 50 with
        | false =>
          go_wp2_with (fail)
          refine (cw t _ _ _ h0 _).mono ?_
          rintro e w9 ⟨rfl, rfl⟩
          go_wp2_with (fail)
          go_ret
          exact ⟨ret_bool (by rw [HV.out, ← H.out, HD.out, List.all_cons]; simp [cueB, h0]), hB2⟩
        | true =>
          go_wp2_with (fail)
          refine (cw t _ _ _ h0 _).mono ?_
          rintro e w9 ⟨rfl, rfl⟩
          cases h1 : risesB a 0 ((zs.length : Int) - 1) with
          | false =>
            go_wp2_with (fail)
            refine (l11Rising_any a ((zs.length : Int) - 1) _ _ (r1.below hb1)).mono ?_
            rintro e wx ⟨he, hd⟩
            obtain rfl : e = .returned (.bool false) := by rw [he, h1]
            replace hB2 := bvia hB2 hd.below
            clear he hd
            go_wp2_with (fail)
            go_ret
            exact ⟨ret_bool (by rw [HV.out, ← H.out, HD.out, List.all_cons]; simp [cueB, h0, h1]), hB2⟩
          | true =>
            go_wp2_with (fail)
            refine (l11Rising_any a ((zs.length : Int) - 1) _ _ (r1.below hb1)).mono ?_
            rintro e wx ⟨he, hd⟩
            obtain rfl : e = .returned (.bool true) := by rw [he, h1]
            replace c2 := hd.cell c2
            replace r2 := r2.below hd.below
            replace hB2 := bvia hB2 hd.below
            clear he hd
            cases h2 : risesB p 0 6 with
            | false =>
              go_wp2_with (fail)
              refine (l11Rising_any p 6 _ _ r2).mono ?_
              rintro e wx ⟨he, hd⟩
              obtain rfl : e = .returned (.bool false) := by rw [he, h2]
              replace hB2 := bvia hB2 hd.below
              clear he hd
              go_wp2_with (fail)
              go_ret
              exact ⟨ret_bool (by rw [HV.out, ← H.out, HD.out, List.all_cons]; simp [cueB, h0, h1, h2]), hB2⟩
            | true =>
              go_wp2_with (fail)
              refine (l11Rising_any p 6 _ _ r2).mono ?_
              rintro e wx ⟨he, hd⟩
              obtain rfl : e = .returned (.bool true) := by rw [he, h2]
              replace hB2 := bvia hB2 hd.below
              clear he hd
              go_wp2_with (fail)
              exact ⟨⟨k + 1, by omega, by go_num, hB2, by show _ = _; rw [← H.out, HD.out, List.all_cons]; simp [cueB, h0, h1, h2]⟩, by simp [intOf]; omega⟩
      · have hall : zs.all (cueB zs.length) = true := by
          rw [← H.out, List.drop_eq_nil_of_le (by omega)]
          rfl
        have HL := Lib.hid hall
        have hA := cueB_after hall
        clear hall H
        go_wp2_with (fail)
        refine (specCircleIn_any zs (by omega) hA _ _ (HR.out.below hB)).mono ?_
        rintro e w2 ⟨u, rfl, o2, hb⟩
        obtain ⟨A2, cp2, rfl, _, _, _⟩ := o2.form
        replace hB := bvia hB hb
        clear hb o2 hA
        have hbq : (((circF zs).length : Int) == 0) = decide ((circF zs).length = 0) := by
          by_cases e : (circF zs).length = 0
          · rw [e]; rfl
          · rw [decide_eq_false e]; exact beq_eq_false_iff_ne.2 (by omega)
        have HQ : Hid (cuesB zs = decide ((circF zs).length = 0)) := by show _ = _; rw [HV.out, HL.out, Bool.true_and]
        generalize (circF zs).length = q at hbq HQ ⊢
        go_wp2_with (fail)
        go_ret
        exact ⟨ret_bool HQ.out.symm, hB⟩
end Go.Proofs.YtkkcglncjdoacaaDoor
