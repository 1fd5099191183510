/- The walks of HardestCue and IsBetter. -/
import Derived.Test.YtcplfempajfcdaaWts
import Derived.Deep.WholeRow
namespace Go.Proofs.Ytcplfempajfcdaa
open Go.ChangeShapes Go.WideShapes Go.ChangeAt Go.RowKit Go.Joins
set_option linter.unusedSimpArgs false
set_option linter.unusedVariables false

theorem run_index_arr (L : List Int) (hL : L.length = 12) (k : Nat) (hk : k < 12) (w : World) : (Instr.index 49 (.agg (ints L).toArray) (.int .i64 k)).run Try.prog w = .ok (.int .i64 (L.getD k 0)) w := by
  rw [List.getD_eq_getElem?_getD]
  have hg : (ints L)[k]? = some (.int .i64 (L[k]?.getD 0)) := by
    rw [ints_get, List.getElem?_eq_getElem (by omega)]
    rfl
  have h12 : (k : Int) < 12 := by omega
  simp [Instr.index, run_underlying Try.underlying49, asIntOf, h12, hk, hg, go_sem]
theorem list12 {L : List Int} (h : L.length = 12) : ∃ a0 a1 a2 a3 a4 a5 a6 a7 a8 a9 a10 a11, L = [a0, a1, a2, a3, a4, a5, a6, a7, a8, a9, a10, a11] := by
  match L, h with
  | [a0, a1, a2, a3, a4, a5, a6, a7, a8, a9, a10, a11], _ => exact ⟨_, _, _, _, _, _, _, _, _, _, _, _, rfl⟩
def bestFrom (R : List Int) : Nat → Nat → Nat → Nat
  | _, b, 0 => b
  | k, b, m + 1 => bestFrom R (k + 1) (if R.getD b 0 < R.getD k 0 then k else b) m
def bestF (R : List Int) : Nat := bestFrom R 0 0 12
theorem bestFrom_step (R : List Int) (k b m : Nat) : bestFrom R k b (m + 1) = bestFrom R (k + 1) (if R.getD b 0 < R.getD k 0 then k else b) m := rfl
def hardF (zs : List (Int × Int × Int)) : Int := if notesB zs = true ∧ zs.length ≠ 0 then bestF (sumsL zs) else -1
/-- Whether no number of B is greater than A's, and one is less; from place k on. -/
def betF (A B : List Int) : Nat → Nat → Bool → Bool
  | _, 0, l => l
  | k, m + 1, l => if A.getD k 0 < B.getD k 0 then false else betF A B (k + 1) m (l || decide (B.getD k 0 < A.getD k 0))
theorem betF_no {A B : List Int} {k m : Nat} {l : Bool} (h : A.getD k 0 < B.getD k 0) : betF A B k (m + 1) l = false := if_pos h
theorem betF_go {A B : List Int} {k m : Nat} {l : Bool} (h : ¬ A.getD k 0 < B.getD k 0) : betF A B k (m + 1) l = betF A B (k + 1) m (l || decide (B.getD k 0 < A.getD k 0)) := if_neg h
def betterB (zs ys : List (Int × Int × Int)) : Bool := notesB zs && notesB ys && betF (sumsL zs) (sumsL ys) 0 12 false

theorem implWeights12 (zs : List (Int × Int × Int)) (hok : notesB zs = true) (v : Value) (w : World) (h : RdNote w v zs) :
    Calls Try.prog 38 #[v] w fun e w' => ∃ a0 a1 a2 a3 a4 a5 a6 a7 a8 a9 a10 a11, e = .returned (.agg #[.int .i64 a0, .int .i64 a1, .int .i64 a2, .int .i64 a3, .int .i64 a4, .int .i64 a5, .int .i64 a6, .int .i64 a7, .int .i64 a8, .int .i64 a9, .int .i64 a10, .int .i64 a11]) ∧ Hid (sumsL zs = [a0, a1, a2, a3, a4, a5, a6, a7, a8, a9, a10, a11]) ∧ Below w.heap.size w w' := by
  obtain ⟨a0, a1, a2, a3, a4, a5, a6, a7, a8, a9, a10, a11, hL⟩ := list12 (sumsL_length zs)
  refine (implWeights_any zs hok v w h).mono ?_
  rintro e w' ⟨rfl, hb⟩
  exact ⟨a0, a1, a2, a3, a4, a5, a6, a7, a8, a9, a10, a11, by rw [hL]; rfl, hL, hb⟩
theorem specHardestCue_any (zs : List (Int × Int × Int)) (v : Value) (w : World) (h : RdNote w v zs) :
    Calls Try.prog 17 #[v] w fun e w' => e = .returned (.int .i64 (hardF zs)) ∧ Below w.heap.size w w' := by
  have HR := Lib.hid h
  obtain ⟨a, cap, rfl⟩ := h.shape
  have hmx : zs.length ≤ 9223372036854775807 := by obtain ⟨_, _, _, _, _, h1, h2, _⟩ := h.open; omega
  clear h
  by_cases hok : notesB zs = true
  · by_cases hz : zs.length = 0
    · rw [show hardF zs = -1 from if_neg (fun h => h.2 hz)]
      obtain rfl : zs = [] := List.eq_nil_of_length_eq_zero hz
      clear hz
      go_enter Try.func17, Try.ntmps17
      go_wp2_with (fail)
      refine (specNotesOk_any _ _ _ HR.out).mono ?_
      rintro e w1 ⟨rfl, hb⟩
      go_wp2_with (fail)
      go_ret
      exact ⟨rfl, hb⟩
    · rw [show hardF zs = bestF (sumsL zs) from if_pos ⟨hok, hz⟩]
      have hzb : ((zs.length : Int) == 0) = false := beq_eq_false_iff_ne.2 (by omega)
      go_enter Try.func17, Try.ntmps17
      go_wp2_with (fail)
      refine (specNotesOk_any zs _ _ HR.out).mono ?_
      rintro e w1 ⟨rfl, hb⟩
      go_wp2_with (fail)
      refine (specSums_any zs hok _ _ (HR.out.below hb)).mono ?_
      rintro e w2 ⟨u, rfl, o, hb2⟩
      have hB := bvia hb hb2
      clear hb hb2
      have hL := sumsL_length zs
      have HLE : Hid (sumsL zs = sumsL zs) := rfl
      generalize hLe : sumsL zs = L at o hL
      replace HLE := Lib.hid hLe
      clear hLe
      rcases o.slice with ⟨_, rfl⟩ | ⟨g, cap2, rfl, hg, hgw, hcap, hmax⟩
      · simp at hL
      have HO := Lib.hid o
      clear o
      rw [hL]
      go_wp2_with (fail)
      go_loopw [3, 5] (fun b i wr => ∃ (k c : Nat), k ≤ 12 ∧ c < 12 ∧ i = .int .i64 k ∧ b = .int .i64 c ∧ Hid (bestFrom L k c (12 - k) = bestF L) ∧ Dr w2 wr) (fun _ i _ => 12 - (intOf i).toNat)
      case atStart => exact ⟨0, 0, by omega, by omega, rfl, rfl, rfl, Dr.refl _⟩
      case round =>
        obtain ⟨k, c, hk, hc, rfl, rfl, H, hD⟩ := hrel
        by_cases hlt : k < 12
        · have HN : Hid (bestFrom L (k + 1) (if L.getD c 0 < L.getD k 0 then k else c) (12 - (k + 1)) = bestF L) := by show _ = _; rw [← H.out, show 12 - k = 12 - (k + 1) + 1 by omega, bestFrom_step]
          have hO := HO.out
          rw [hL] at hO
          obtain ⟨hck, _⟩ := hO.cell (k := k) (by omega)
          obtain ⟨hcc, _⟩ := hO.cell (k := c) (by omega)
          replace hck := hD.cell hck
          replace hcc := hD.cell hcc
          clear hO
          generalize L.getD k 0 = x at hck HN
          generalize L.getD c 0 = y at hcc HN
          have q1 : (k : Int) < 12 := by omega
          have q2 : (c : Int) < 12 := by omega
          by_cases hyx : y < x
          · rw [if_pos hyx] at HN
            go_wp2
            go_quiet (fail)
            go_wp2
            exact ⟨⟨k + 1, k, by omega, hlt, by go_num, rfl, HN, hD.next _⟩, by simp [intOf]; omega⟩
          · rw [if_neg hyx] at HN
            go_wp2
            go_quiet (fail)
            go_wp2
            exact ⟨⟨k + 1, c, by omega, hc, by go_num, rfl, HN, hD.next _⟩, by simp [intOf]; omega⟩
        · go_wp2
          go_ret
          obtain rfl : k = 12 := by omega
          exact ⟨ret_int (by rw [HLE.out, ← H.out]; rfl), bvia hB hD.below⟩
  · have hok' : notesB zs = false := by simpa using hok
    rw [show hardF zs = -1 from if_neg (fun h => hok h.1)]
    clear hok
    go_enter Try.func17, Try.ntmps17
    go_wp2_with (fail)
    refine (specNotesOk_any zs _ _ HR.out).mono ?_
    rintro e w1 ⟨rfl, hb⟩
    go_wp2_with (fail)
    go_ret
    exact ⟨rfl, hb⟩
theorem implHardestCue_any (zs : List (Int × Int × Int)) (v : Value) (w : World) (h : RdNote w v zs) :
    Calls Try.prog 18 #[v] w fun e w' => e = .returned (.int .i64 (hardF zs)) ∧ Below w.heap.size w w' := by
  have HR := Lib.hid h
  obtain ⟨a, cap, rfl⟩ := h.shape
  have hmx : zs.length ≤ 9223372036854775807 := by obtain ⟨_, _, _, _, _, h1, h2, _⟩ := h.open; omega
  clear h
  by_cases hok : notesB zs = true
  · by_cases hz : zs.length = 0
    · rw [show hardF zs = -1 from if_neg (fun h => h.2 hz)]
      obtain rfl : zs = [] := List.eq_nil_of_length_eq_zero hz
      clear hz
      go_enter Try.func18, Try.ntmps18
      go_wp2_with (fail)
      refine (implNotesOk_any _ _ _ HR.out).mono ?_
      rintro e w1 ⟨rfl, hb⟩
      go_wp2_with (fail)
      go_ret
      exact ⟨rfl, hb⟩
    · rw [show hardF zs = bestF (sumsL zs) from if_pos ⟨hok, hz⟩]
      have hzb : ((zs.length : Int) == 0) = false := beq_eq_false_iff_ne.2 (by omega)
      go_enter Try.func18, Try.ntmps18
      go_wp2_with (fail)
      refine (implNotesOk_any zs _ _ HR.out).mono ?_
      rintro e w1 ⟨rfl, hb⟩
      go_wp2_with (fail)
      refine (implWeights12 zs hok _ _ (HR.out.below hb)).mono ?_
      rintro e w2 ⟨a0, a1, a2, a3, a4, a5, a6, a7, a8, a9, a10, a11, rfl, HLE, hb2⟩
      have hB := bvia hb hb2
      clear hb hb2
      have HIX := Lib.hid (run_index_arr [a0, a1, a2, a3, a4, a5, a6, a7, a8, a9, a10, a11] rfl)
      have HA : Hid (OwArr (w2.alloc (.cells #[.int .i64 a0, .int .i64 a1, .int .i64 a2, .int .i64 a3, .int .i64 a4, .int .i64 a5, .int .i64 a6, .int .i64 a7, .int .i64 a8, .int .i64 a9, .int .i64 a10, .int .i64 a11] 49)) w2.heap.size w2.heap.size [a0, a1, a2, a3, a4, a5, a6, a7, a8, a9, a10, a11]) := OwArr.made w2 (L := [a0, a1, a2, a3, a4, a5, a6, a7, a8, a9, a10, a11]) rfl
      replace hB := hB.alloc hB.size (.cells #[.int .i64 a0, .int .i64 a1, .int .i64 a2, .int .i64 a3, .int .i64 a4, .int .i64 a5, .int .i64 a6, .int .i64 a7, .int .i64 a8, .int .i64 a9, .int .i64 a10, .int .i64 a11] 49)
      go_wp2_with (fail)
      obtain ⟨W, hW⟩ : ∃ W, W = w2.alloc (.cells #[.int .i64 a0, .int .i64 a1, .int .i64 a2, .int .i64 a3, .int .i64 a4, .int .i64 a5, .int .i64 a6, .int .i64 a7, .int .i64 a8, .int .i64 a9, .int .i64 a10, .int .i64 a11] 49) := ⟨_, rfl⟩
      rw [← hW] at hB HA ⊢
      clear hW
      have hv : (Value.agg #[.int .i64 a0, .int .i64 a1, .int .i64 a2, .int .i64 a3, .int .i64 a4, .int .i64 a5, .int .i64 a6, .int .i64 a7, .int .i64 a8, .int .i64 a9, .int .i64 a10, .int .i64 a11]) = .agg (ints [a0, a1, a2, a3, a4, a5, a6, a7, a8, a9, a10, a11]).toArray := rfl
      rw [hv]
      clear hv
      generalize [a0, a1, a2, a3, a4, a5, a6, a7, a8, a9, a10, a11] = L at HLE HA HIX ⊢
      go_loop [3, 18] (fun b i => ∃ (k c : Nat), k ≤ 12 ∧ c < 12 ∧ i = .int .i64 k ∧ b = .int .i64 c ∧ Hid (bestFrom L k c (12 - k) = bestF L)) (fun _ i => 12 - (intOf i).toNat)
      case atStart => exact ⟨0, 0, by omega, by omega, rfl, rfl, rfl⟩
      case round =>
        obtain ⟨k, c, hk, hc, rfl, rfl, H⟩ := hrel
        by_cases hlt : k < 12
        · have HN : Hid (bestFrom L (k + 1) (if L.getD c 0 < L.getD k 0 then k else c) (12 - (k + 1)) = bestF L) := by show _ = _; rw [← H.out, show 12 - k = 12 - (k + 1) + 1 by omega, bestFrom_step]
          have hi1 := HIX.out k hlt
          obtain ⟨hcc, _⟩ := HA.out.cell hc
          generalize L.getD k 0 = x at hi1 HN
          generalize L.getD c 0 = y at hcc HN
          have q1 : (k : Int) < 12 := by omega
          have q2 : (c : Int) < 12 := by omega
          by_cases hyx : y < x
          · rw [if_pos hyx] at HN
            go_wp2
            exact ⟨⟨k + 1, k, by omega, hlt, by go_num, rfl, HN⟩, by simp [intOf]; omega⟩
          · rw [if_neg hyx] at HN
            go_wp2
            exact ⟨⟨k + 1, c, by omega, hc, by go_num, rfl, HN⟩, by simp [intOf]; omega⟩
        · go_wp2
          go_ret
          obtain rfl : k = 12 := by omega
          exact ⟨ret_int (by rw [HLE.out, ← H.out]; rfl), hB⟩
  · have hok' : notesB zs = false := by simpa using hok
    rw [show hardF zs = -1 from if_neg (fun h => hok h.1)]
    clear hok
    go_enter Try.func18, Try.ntmps18
    go_wp2_with (fail)
    refine (implNotesOk_any zs _ _ HR.out).mono ?_
    rintro e w1 ⟨rfl, hb⟩
    go_wp2_with (fail)
    go_ret
    exact ⟨rfl, hb⟩
theorem walkFnExactHardestCue (zs : List (Int × Int × Int)) (vzs : Value) (w : World) (hzs : RdNote w vzs zs) : Calls Try.prog 5 #[vzs] w fun e w' => e = .returned (.bool true) ∧ Below w.heap.size w w' := by
  have hmxzs : zs.length ≤ 9223372036854775807 := by obtain ⟨_, _, _, _, _, h1, h2, _⟩ := hzs.open; omega
  obtain ⟨azs, capzs, rfl⟩ := hzs.shape
  by_cases hlzs : zs.length ≤ 1048576
  · skip
    have hB := Below.refl w.heap.size w
    go_enter Try.func5, Try.ntmps5
    go_wp2_with (fail)
    refine (szNoteS_ok _ _ _ _ (by omega) (by omega) _).mono ?_
    rintro e w' ⟨rfl, rfl⟩
    go_wp2_with (fail)
    refine (toNoteS_any zs (by omega) _ _ (hzs.below hB)).mono ?_
    rintro e w1 ⟨ut0, rfl, ot0, hb⟩
    have bt0 := hB.size
    replace hB := bvia hB hb
    clear hb
    go_wp2_with (fail)
    refine (specHardestCue_any zs  _ _ ot0.rd).mono ?_
    rintro e w2 ⟨rfl, hb⟩
    replace ot0 := ot0.below hb
    replace hB := bvia hB hb
    clear hb
    clear ot0
    go_wp2_with (fail)
    refine (toNoteS_any zs (by omega) _ _ (hzs.below hB)).mono ?_
    rintro e w3 ⟨ux0, rfl, ox0, hb⟩
    have bx0 := hB.size
    replace hB := bvia hB hb
    clear hb
    go_wp2_with (fail)
    refine (implHardestCue_any zs  _ _ ox0.rd).mono ?_
    rintro e w4 ⟨rfl, hb⟩
    replace ox0 := ox0.below hb
    replace hB := bvia hB hb
    clear hb
    go_wp2_with (fail)
    refine (toNoteS_any zs (by omega) _ _ (hzs.below hB)).mono ?_
    rintro e w5 ⟨uy0, rfl, oy0, hb⟩
    have dx0_y0 := dis_of ox0.lt oy0.lt (Nat.le_refl _)
    have dy0_x0 := dis_of' ox0.lt oy0.lt (Nat.le_refl _)
    have by0 := hB.size
    replace ox0 := ox0.below hb
    replace hB := bvia hB hb
    clear hb
    go_wp2_with (fail)
    refine (eqNoteS_any zs _ _ _ ox0.rd oy0.rd).mono ?_
    rintro e w6 ⟨rfl, hb⟩
    replace ox0 := ox0.below hb
    replace oy0 := oy0.below hb
    replace hB := bvia hB hb
    clear hb
    clear oy0
    go_wp2_with (fail)
    go_returns
    exact ⟨rfl, hB⟩
  · go_enter Try.func5, Try.ntmps5
    go_wp2_with (fail)
    refine (szNoteS_no _ _ _ (by have := hmxzs; omega) _ (by omega) (by omega) (by omega) _).mono ?_
    rintro e w' ⟨rfl, rfl⟩
    go_wp2_with (fail)
    go_returns
    exact ⟨rfl, Below.refl _ _⟩
set_option maxHeartbeats 800000 in
theorem specIsBetter_any (zs ys : List (Int × Int × Int)) (v u : Value) (w : World) (h : RdNote w v zs) (h' : RdNote w u ys) :
    Calls Try.prog 19 #[v, u] w fun e w' => e = .returned (.bool (betterB zs ys)) ∧ Below w.heap.size w w' := by
  have HR := Lib.hid h
  have HR' := Lib.hid h'
  clear h h'
  by_cases hok : notesB zs = true
  · by_cases hok2 : notesB ys = true
    · have hbb : betterB zs ys = betF (sumsL zs) (sumsL ys) 0 12 false := by simp [betterB, hok, hok2]
      rw [hbb]
      clear hbb
      go_enter Try.func19, Try.ntmps19
      go_wp2_with (fail)
      refine (specNotesOk_any zs _ _ HR.out).mono ?_
      rintro e w1 ⟨rfl, hb⟩
      go_wp2_with (fail)
      refine (specNotesOk_any ys _ _ (HR'.out.below hb)).mono ?_
      rintro e w2 ⟨rfl, hb2⟩
      have hB := bvia hb hb2
      clear hb hb2
      go_wp2_with (fail)
      refine (specSums_any zs hok _ _ (HR.out.below hB)).mono ?_
      rintro e w3 ⟨ua, rfl, oa, hb⟩
      replace hB := bvia hB hb
      clear hb
      go_wp2_with (fail)
      refine (specSums_any ys hok2 _ _ (HR'.out.below hB)).mono ?_
      rintro e w0 ⟨ub, rfl, ob, hb⟩
      replace oa := oa.below hb
      replace hB := bvia hB hb
      clear hb
      have hL := sumsL_length zs
      have hM := sumsL_length ys
      generalize hLe : sumsL zs = L at oa hL
      generalize hMe : sumsL ys = M at ob hM
      have HLE := Lib.hid hLe
      have HME := Lib.hid hMe
      clear hLe hMe
      rcases oa.slice with ⟨_, rfl⟩ | ⟨ga, ca, rfl, hga, hgwa, hcapa, hmaxa⟩
      · simp at hL
      rcases ob.slice with ⟨_, rfl⟩ | ⟨gb, cb, rfl, hgb, hgwb, hcapb, hmaxb⟩
      · simp at hM
      have hc1 := fun (k : Nat) (hk : k < 12) => (oa.cell (k := k) (by omega)).1
      have hc2 := fun (k : Nat) (hk : k < 12) => (ob.cell (k := k) (by omega)).1
      have HC1 := Lib.hid hc1
      have HC2 := Lib.hid hc2
      clear hc1 hc2 oa ob
      rw [hL, hM]
      go_wp2_with (fail)
      go_loopw [7, 8] (fun l i wr => ∃ (k : Nat) (b : Bool), k ≤ 12 ∧ i = .int .i64 k ∧ l = .bool b ∧ Hid (betF L M k (12 - k) b = betF L M 0 12 false) ∧ Dr w0 wr) (fun _ i _ => 12 - (intOf i).toNat)
      case atStart => exact ⟨0, false, by omega, rfl, rfl, rfl, Dr.refl _⟩
      case round =>
       as_aux_lemma =>
        obtain ⟨k, b, hk, rfl, rfl, H, hD⟩ := hrel
        by_cases hlt : k < 12
        · have hm : 12 - k = 12 - (k + 1) + 1 := by omega
          have hcl := hD.cell (HC1.out k hlt)
          have hcm := hD.cell (HC2.out k hlt)
          have HG : Hid (∀ (hx : ¬ L.getD k 0 < M.getD k 0), betF L M (k + 1) (12 - (k + 1)) (b || decide (M.getD k 0 < L.getD k 0)) = betF L M 0 12 false) := fun hx => by rw [← H.out, hm, betF_go hx]
          have HF : Hid (L.getD k 0 < M.getD k 0 → betF L M 0 12 false = false) := fun hx => by rw [← H.out, hm, betF_no hx]
          clear H hm
          generalize L.getD k 0 = x at hcl HG HF
          generalize M.getD k 0 = y at hcm HG HF
          have q1 : (k : Int) < 12 := by omega
          by_cases hxy : x < y
          · have hF := HF.out hxy
            have HF2 := Lib.hid hF
            clear hF HF HG
            go_wp2
            go_quiet (fail)
            go_wp2
            go_ret
            exact ⟨ret_bool (by rw [HLE.out, HME.out, HF2.out]), bvia hB (hD.next _).below⟩
          · have hG := HG.out hxy
            clear HF HG
            cases b with
            | true =>
              have HG2 := Lib.hid hG
              clear hG
              go_wp2
              go_quiet (fail)
              go_wp2
              go_quiet (fail)
              go_wp2
              exact ⟨⟨k + 1, true, by omega, by go_num, rfl, HG2, hD.next _⟩, by simp [intOf]; omega⟩
            | false =>
              by_cases hyx : y < x
              · rw [decide_eq_true hyx] at hG
                have HG2 := Lib.hid hG
                clear hG
                go_wp2
                go_quiet (fail)
                go_wp2
                go_quiet (fail)
                go_wp2
                exact ⟨⟨k + 1, true, by omega, by go_num, rfl, HG2, hD.next _⟩, by simp [intOf]; omega⟩
              · rw [decide_eq_false hyx] at hG
                have HG2 := Lib.hid hG
                have hyd : decide (y < x) = false := decide_eq_false hyx
                clear hG
                go_wp2
                go_quiet (fail)
                go_wp2
                go_quiet (fail)
                go_wp2
                exact ⟨⟨k + 1, false, by omega, by go_num, rfl, HG2, hD.next _⟩, by simp [intOf]; omega⟩
        · go_wp2
          go_ret
          obtain rfl : k = 12 := by omega
          exact ⟨ret_bool (by rw [HLE.out, HME.out, ← H.out]; rfl), bvia hB hD.below⟩
    · have hok2' : notesB ys = false := by simpa using hok2
      have hbb : betterB zs ys = false := by simp [betterB, hok2']
      rw [hbb]
      clear hbb hok2
      go_enter Try.func19, Try.ntmps19
      go_wp2_with (fail)
      refine (specNotesOk_any zs _ _ HR.out).mono ?_
      rintro e w1 ⟨rfl, hb⟩
      go_wp2_with (fail)
      refine (specNotesOk_any ys _ _ (HR'.out.below hb)).mono ?_
      rintro e w2 ⟨rfl, hb2⟩
      go_wp2_with (fail)
      go_ret
      exact ⟨rfl, bvia hb hb2⟩
  · have hok' : notesB zs = false := by simpa using hok
    have hbb : betterB zs ys = false := by simp [betterB, hok']
    rw [hbb]
    clear hbb hok
    go_enter Try.func19, Try.ntmps19
    go_wp2_with (fail)
    refine (specNotesOk_any zs _ _ HR.out).mono ?_
    rintro e w1 ⟨rfl, hb⟩
    go_wp2_with (fail)
    go_ret
    exact ⟨rfl, hb⟩
set_option maxHeartbeats 800000 in
theorem implIsBetter_any (zs ys : List (Int × Int × Int)) (v u : Value) (w : World) (h : RdNote w v zs) (h' : RdNote w u ys) :
    Calls Try.prog 20 #[v, u] w fun e w' => e = .returned (.bool (betterB zs ys)) ∧ Below w.heap.size w w' := by
  have HR := Lib.hid h
  have HR' := Lib.hid h'
  clear h h'
  by_cases hok : notesB zs = true
  · by_cases hok2 : notesB ys = true
    · have hbb : betterB zs ys = betF (sumsL zs) (sumsL ys) 0 12 false := by simp [betterB, hok, hok2]
      rw [hbb]
      clear hbb
      go_enter Try.func20, Try.ntmps20
      go_wp2_with (fail)
      refine (implNotesOk_any zs _ _ HR.out).mono ?_
      rintro e w1 ⟨rfl, hb⟩
      go_wp2_with (fail)
      refine (implNotesOk_any ys _ _ (HR'.out.below hb)).mono ?_
      rintro e w2 ⟨rfl, hb2⟩
      have hB := bvia hb hb2
      clear hb hb2
      go_wp2_with (fail)
      refine (implWeights12 zs hok _ _ (HR.out.below hB)).mono ?_
      rintro e w3 ⟨a0, a1, a2, a3, a4, a5, a6, a7, a8, a9, a10, a11, rfl, HLE, hb⟩
      replace hB := bvia hB hb
      clear hb
      go_wp2_with (fail)
      refine (implWeights12 ys hok2 _ _ (HR'.out.below hB)).mono ?_
      rintro e w4 ⟨b0, b1, b2, b3, b4, b5, b6, b7, b8, b9, b10, b11, rfl, HME, hb⟩
      replace hB := bvia hB hb
      clear hb
      go_wp2_with (fail)
      have hA := OwArr.alloc (OwArr.made w4 (L := [a0, a1, a2, a3, a4, a5, a6, a7, a8, a9, a10, a11]) rfl) (.cells #[.int .i64 b0, .int .i64 b1, .int .i64 b2, .int .i64 b3, .int .i64 b4, .int .i64 b5, .int .i64 b6, .int .i64 b7, .int .i64 b8, .int .i64 b9, .int .i64 b10, .int .i64 b11] 49)
      have hA2 := OwArr.made (w4.alloc (.cells #[.int .i64 a0, .int .i64 a1, .int .i64 a2, .int .i64 a3, .int .i64 a4, .int .i64 a5, .int .i64 a6, .int .i64 a7, .int .i64 a8, .int .i64 a9, .int .i64 a10, .int .i64 a11] 49)) (L := [b0, b1, b2, b3, b4, b5, b6, b7, b8, b9, b10, b11]) rfl
      have e0 : (w4.alloc (.cells #[.int .i64 a0, .int .i64 a1, .int .i64 a2, .int .i64 a3, .int .i64 a4, .int .i64 a5, .int .i64 a6, .int .i64 a7, .int .i64 a8, .int .i64 a9, .int .i64 a10, .int .i64 a11] 49)).heap.size = w4.heap.size + 1 := by simp
      have hB0 := (hB.alloc hB.size (.cells #[.int .i64 a0, .int .i64 a1, .int .i64 a2, .int .i64 a3, .int .i64 a4, .int .i64 a5, .int .i64 a6, .int .i64 a7, .int .i64 a8, .int .i64 a9, .int .i64 a10, .int .i64 a11] 49)).alloc (by have := hB.size; simp; omega) (.cells #[.int .i64 b0, .int .i64 b1, .int .i64 b2, .int .i64 b3, .int .i64 b4, .int .i64 b5, .int .i64 b6, .int .i64 b7, .int .i64 b8, .int .i64 b9, .int .i64 b10, .int .i64 b11] 49)
      rw [e0] at hA2
      obtain ⟨w0, hW⟩ : ∃ W, W = (w4.alloc (.cells #[.int .i64 a0, .int .i64 a1, .int .i64 a2, .int .i64 a3, .int .i64 a4, .int .i64 a5, .int .i64 a6, .int .i64 a7, .int .i64 a8, .int .i64 a9, .int .i64 a10, .int .i64 a11] 49)).alloc (.cells #[.int .i64 b0, .int .i64 b1, .int .i64 b2, .int .i64 b3, .int .i64 b4, .int .i64 b5, .int .i64 b6, .int .i64 b7, .int .i64 b8, .int .i64 b9, .int .i64 b10, .int .i64 b11] 49) := ⟨_, rfl⟩
      have hA' : OwArr w0 w4.heap.size w4.heap.size [a0, a1, a2, a3, a4, a5, a6, a7, a8, a9, a10, a11] := by rw [hW]; exact hA
      have hA2' : OwArr w0 (w4.heap.size + 1) (w4.heap.size + 1) [b0, b1, b2, b3, b4, b5, b6, b7, b8, b9, b10, b11] := by rw [hW]; exact hA2
      replace hB : Below w.heap.size w w0 := by rw [hW]; exact hB0
      rw [← hW]
      clear hW hA hA2 hB0 e0
      generalize [a0, a1, a2, a3, a4, a5, a6, a7, a8, a9, a10, a11] = L at HLE hA'
      generalize [b0, b1, b2, b3, b4, b5, b6, b7, b8, b9, b10, b11] = M at HME hA2'
      have HC1 := Lib.hid (fun (k : Nat) (hk : k < 12) => (hA'.cell hk).1)
      have HC2 := Lib.hid (fun (k : Nat) (hk : k < 12) => (hA2'.cell hk).1)
      clear hA' hA2'

      go_loopw [7, 21] (fun l i wr => ∃ (k : Nat) (b : Bool), k ≤ 12 ∧ i = .int .i64 k ∧ l = .bool b ∧ Hid (betF L M k (12 - k) b = betF L M 0 12 false) ∧ Dr w0 wr) (fun _ i _ => 12 - (intOf i).toNat)
      case atStart => exact ⟨0, false, by omega, rfl, rfl, rfl, Dr.refl _⟩
      case round =>
       as_aux_lemma =>
        obtain ⟨k, b, hk, rfl, rfl, H, hD⟩ := hrel
        by_cases hlt : k < 12
        · have hm : 12 - k = 12 - (k + 1) + 1 := by omega
          have hcl := hD.cell (HC1.out k hlt)
          have hcm := hD.cell (HC2.out k hlt)
          have HG : Hid (∀ (hx : ¬ L.getD k 0 < M.getD k 0), betF L M (k + 1) (12 - (k + 1)) (b || decide (M.getD k 0 < L.getD k 0)) = betF L M 0 12 false) := fun hx => by rw [← H.out, hm, betF_go hx]
          have HF : Hid (L.getD k 0 < M.getD k 0 → betF L M 0 12 false = false) := fun hx => by rw [← H.out, hm, betF_no hx]
          clear H hm
          generalize L.getD k 0 = x at hcl HG HF
          generalize M.getD k 0 = y at hcm HG HF
          have q1 : (k : Int) < 12 := by omega
          by_cases hxy : x < y
          · have hF := HF.out hxy
            have HF2 := Lib.hid hF
            clear hF HF HG
            go_wp2
            go_quiet (fail)
            go_wp2
            go_ret
            exact ⟨ret_bool (by rw [HLE.out, HME.out, HF2.out]), bvia hB (hD.next _).below⟩
          · have hG := HG.out hxy
            clear HF HG
            cases b with
            | true =>
              have HG2 := Lib.hid hG
              clear hG
              go_wp2
              go_quiet (fail)
              go_wp2
              go_quiet (fail)
              go_wp2
              exact ⟨⟨k + 1, true, by omega, by go_num, rfl, HG2, hD.next _⟩, by simp [intOf]; omega⟩
            | false =>
              by_cases hyx : y < x
              · rw [decide_eq_true hyx] at hG
                have HG2 := Lib.hid hG
                clear hG
                go_wp2
                go_quiet (fail)
                go_wp2
                go_quiet (fail)
                go_wp2
                exact ⟨⟨k + 1, true, by omega, by go_num, rfl, HG2, hD.next _⟩, by simp [intOf]; omega⟩
              · rw [decide_eq_false hyx] at hG
                have HG2 := Lib.hid hG
                have hyd : decide (y < x) = false := decide_eq_false hyx
                clear hG
                go_wp2
                go_quiet (fail)
                go_wp2
                go_quiet (fail)
                go_wp2
                exact ⟨⟨k + 1, false, by omega, by go_num, rfl, HG2, hD.next _⟩, by simp [intOf]; omega⟩
        · go_wp2
          go_ret
          obtain rfl : k = 12 := by omega
          exact ⟨ret_bool (by rw [HLE.out, HME.out, ← H.out]; rfl), bvia hB hD.below⟩
    · have hok2' : notesB ys = false := by simpa using hok2
      have hbb : betterB zs ys = false := by simp [betterB, hok2']
      rw [hbb]
      clear hbb hok2
      go_enter Try.func20, Try.ntmps20
      go_wp2_with (fail)
      refine (implNotesOk_any zs _ _ HR.out).mono ?_
      rintro e w1 ⟨rfl, hb⟩
      go_wp2_with (fail)
      refine (implNotesOk_any ys _ _ (HR'.out.below hb)).mono ?_
      rintro e w2 ⟨rfl, hb2⟩
      go_wp2_with (fail)
      go_ret
      exact ⟨rfl, bvia hb hb2⟩
  · have hok' : notesB zs = false := by simpa using hok
    have hbb : betterB zs ys = false := by simp [betterB, hok']
    rw [hbb]
    clear hbb hok
    go_enter Try.func20, Try.ntmps20
    go_wp2_with (fail)
    refine (implNotesOk_any zs _ _ HR.out).mono ?_
    rintro e w1 ⟨rfl, hb⟩
    go_wp2_with (fail)
    go_ret
    exact ⟨rfl, hb⟩
theorem walkFnExactIsBetter (zs : List (Int × Int × Int)) (ys : List (Int × Int × Int)) (vzs : Value) (vys : Value) (w : World) (hzs : RdNote w vzs zs) (hys : RdNote w vys ys) : Calls Try.prog 6 #[vzs, vys] w fun e w' => e = .returned (.bool true) ∧ Below w.heap.size w w' := by
  have hmxzs : zs.length ≤ 9223372036854775807 := by obtain ⟨_, _, _, _, _, h1, h2, _⟩ := hzs.open; omega
  obtain ⟨azs, capzs, rfl⟩ := hzs.shape
  have hmxys : ys.length ≤ 9223372036854775807 := by obtain ⟨_, _, _, _, _, h1, h2, _⟩ := hys.open; omega
  obtain ⟨ays, capys, rfl⟩ := hys.shape
  by_cases hlzs : zs.length ≤ 1048576
  · skip
    by_cases hlys : zs.length + ys.length ≤ 1048576
    · skip
      have hB := Below.refl w.heap.size w
      go_enter Try.func6, Try.ntmps6
      go_wp2_with (fail)
      refine (szNoteS_ok _ _ _ _ (by omega) (by omega) _).mono ?_
      rintro e w' ⟨rfl, rfl⟩
      go_wp2_with (fail)
      refine (szNoteS_ok _ _ _ _ (by omega) (by omega) _).mono ?_
      rintro e w' ⟨rfl, rfl⟩
      go_wp2_with (fail)
      refine (toNoteS_any zs (by omega) _ _ (hzs.below hB)).mono ?_
      rintro e w1 ⟨ut0, rfl, ot0, hb⟩
      have bt0 := hB.size
      replace hB := bvia hB hb
      clear hb
      go_wp2_with (fail)
      refine (toNoteS_any ys (by omega) _ _ (hys.below hB)).mono ?_
      rintro e w2 ⟨ut1, rfl, ot1, hb⟩
      have dt0_t1 := dis_of ot0.lt ot1.lt (Nat.le_refl _)
      have dt1_t0 := dis_of' ot0.lt ot1.lt (Nat.le_refl _)
      have bt1 := hB.size
      replace ot0 := ot0.below hb
      replace hB := bvia hB hb
      clear hb
      go_wp2_with (fail)
      refine (specIsBetter_any zs ys  _ _ _ ot0.rd ot1.rd).mono ?_
      rintro e w3 ⟨rfl, hb⟩
      replace ot0 := ot0.below hb
      replace ot1 := ot1.below hb
      replace hB := bvia hB hb
      clear hb
      clear ot0
      clear ot1
      go_wp2_with (fail)
      refine (toNoteS_any zs (by omega) _ _ (hzs.below hB)).mono ?_
      rintro e w4 ⟨ux0, rfl, ox0, hb⟩
      have bx0 := hB.size
      replace hB := bvia hB hb
      clear hb
      go_wp2_with (fail)
      refine (toNoteS_any ys (by omega) _ _ (hys.below hB)).mono ?_
      rintro e w5 ⟨ux1, rfl, ox1, hb⟩
      have dx0_x1 := dis_of ox0.lt ox1.lt (Nat.le_refl _)
      have dx1_x0 := dis_of' ox0.lt ox1.lt (Nat.le_refl _)
      have bx1 := hB.size
      replace ox0 := ox0.below hb
      replace hB := bvia hB hb
      clear hb
      go_wp2_with (fail)
      refine (implIsBetter_any zs ys  _ _ _ ox0.rd ox1.rd).mono ?_
      rintro e w6 ⟨rfl, hb⟩
      replace ox0 := ox0.below hb
      replace ox1 := ox1.below hb
      replace hB := bvia hB hb
      clear hb
      go_wp2_with (fail)
      refine (toNoteS_any zs (by omega) _ _ (hzs.below hB)).mono ?_
      rintro e w7 ⟨uy0, rfl, oy0, hb⟩
      have dx0_y0 := dis_of ox0.lt oy0.lt (Nat.le_refl _)
      have dy0_x0 := dis_of' ox0.lt oy0.lt (Nat.le_refl _)
      have dx1_y0 := dis_of ox1.lt oy0.lt (Nat.le_refl _)
      have dy0_x1 := dis_of' ox1.lt oy0.lt (Nat.le_refl _)
      have by0 := hB.size
      replace ox0 := ox0.below hb
      replace ox1 := ox1.below hb
      replace hB := bvia hB hb
      clear hb
      go_wp2_with (fail)
      refine (eqNoteS_any zs _ _ _ ox0.rd oy0.rd).mono ?_
      rintro e w8 ⟨rfl, hb⟩
      replace ox0 := ox0.below hb
      replace ox1 := ox1.below hb
      replace oy0 := oy0.below hb
      replace hB := bvia hB hb
      clear hb
      clear oy0
      go_wp2_with (fail)
      refine (toNoteS_any ys (by omega) _ _ (hys.below hB)).mono ?_
      rintro e w9 ⟨uy1, rfl, oy1, hb⟩
      have dx0_y1 := dis_of ox0.lt oy1.lt (Nat.le_refl _)
      have dy1_x0 := dis_of' ox0.lt oy1.lt (Nat.le_refl _)
      have dx1_y1 := dis_of ox1.lt oy1.lt (Nat.le_refl _)
      have dy1_x1 := dis_of' ox1.lt oy1.lt (Nat.le_refl _)
      have by1 := hB.size
      replace ox0 := ox0.below hb
      replace ox1 := ox1.below hb
      replace hB := bvia hB hb
      clear hb
      go_wp2_with (fail)
      refine (eqNoteS_any ys _ _ _ ox1.rd oy1.rd).mono ?_
      rintro e w10 ⟨rfl, hb⟩
      replace ox0 := ox0.below hb
      replace ox1 := ox1.below hb
      replace oy1 := oy1.below hb
      replace hB := bvia hB hb
      clear hb
      clear oy1
      go_wp2_with (fail)
      go_returns
      exact ⟨rfl, hB⟩
    · go_enter Try.func6, Try.ntmps6
      go_wp2_with (fail)
      refine (szNoteS_ok _ _ _ _ (by omega) (by omega) _).mono ?_
      rintro e w' ⟨rfl, rfl⟩
      go_wp2_with (fail)
      refine (szNoteS_no _ _ _ (by have := hmxys; omega) _ (by omega) (by omega) (by omega) _).mono ?_
      rintro e w' ⟨rfl, rfl⟩
      go_wp2_with (fail)
      go_returns
      exact ⟨rfl, Below.refl _ _⟩
  · go_enter Try.func6, Try.ntmps6
    go_wp2_with (fail)
    refine (szNoteS_no _ _ _ (by have := hmxzs; omega) _ (by omega) (by omega) (by omega) _).mono ?_
    rintro e w' ⟨rfl, rfl⟩
    go_wp2_with (fail)
    go_returns
    exact ⟨rfl, Below.refl _ _⟩
end Go.Proofs.Ytcplfempajfcdaa
