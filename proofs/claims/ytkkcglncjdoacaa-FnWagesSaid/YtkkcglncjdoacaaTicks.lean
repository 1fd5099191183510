/- The walks of TicksPlayed: how long puppets play; program, reference, law. -/
import Derived.Test.YtkkcglncjdoacaaCuesOk
namespace Go.Proofs.Ytkkcglncjdoacaa
open Go.ChangeShapes Go.WideShapes Go.ChangeAt Go.RowKit Go.Joins
set_option linter.unusedSimpArgs false
set_option linter.unusedVariables false

def accP (t : Int) (ps : List Int) : List Int → Int → Int
  | [], s => s
  | p :: r, s => accP t ps r (if ps.any (· == p) = true then s + t else s)
def accC (ps : List Int) : List CueV → Int → Int
  | [], s => s
  | z :: r, s => accC ps r (accP z.1 ps z.2.2 s)
def ticksF (zs : List CueV) (ps : List Int) : Int := if cuesB zs = true then accC ps zs 0 else -1
theorem strict_pw (zs : List Int) : strictB zs = true → zs.Pairwise (· < ·) := by
  induction zs with
  | nil => intro _; exact List.Pairwise.nil
  | cons x r ih =>
    cases r with
    | nil => intro _; simp
    | cons y r =>
      rw [strictB_cons, Bool.and_eq_true, decide_eq_true_eq]
      rintro ⟨h1, h2⟩
      have h3 := ih h2
      refine List.pairwise_cons.2 ⟨fun a ha => ?_, h3⟩
      rcases List.mem_cons.1 ha with rfl | ha
      · exact h1
      · have := (List.pairwise_cons.1 h3).1 a ha; omega
theorem pw_len (zs : List Int) : ∀ a b : Int, zs.Pairwise (· < ·) → (∀ z ∈ zs, a ≤ z ∧ z ≤ b) → a ≤ b + 1 → (zs.length : Int) ≤ b - a + 1 := by
  induction zs with
  | nil => intro a b _ _ h; simp; omega
  | cons x r ih =>
    intro a b h1 h2 h3
    have hx := h2 x (by simp)
    have := ih (x + 1) b (List.pairwise_cons.1 h1).2 (fun z hz => ⟨by have := (List.pairwise_cons.1 h1).1 z hz; omega, (h2 z (by simp [hz])).2⟩) (by omega)
    simp only [List.length_cons]
    omega
theorem rises_len {p : List Int} (h : risesB p 0 6 = true) : p.length ≤ 7 := by
  simp only [risesB, Bool.and_eq_true] at h
  have := pw_len p 0 6 (strict_pw p h.1) (allB_mem h.2) (by omega)
  omega
theorem cues_get {zs : List CueV} (h : cuesB zs = true) : zs.length ≤ 12 ∧ ∀ z ∈ zs, (1 ≤ z.1 ∧ z.1 ≤ 50) ∧ z.2.2.length ≤ 7 := by
  simp only [cuesB, Bool.and_eq_true] at h
  refine ⟨by have := inB_true.1 h.1.1; omega, fun z hz => ?_⟩
  have := List.all_eq_true.1 h.1.2 z hz
  simp only [cueB, Bool.and_eq_true] at this
  exact ⟨inB_true.1 this.1.1, rises_len this.2⟩
theorem accP_bd (t : Int) (ht : 0 ≤ t ∧ t ≤ 50) (ps : List Int) (qs : List Int) : ∀ s, s ≤ accP t ps qs s ∧ accP t ps qs s ≤ s + 50 * qs.length := by
  induction qs with
  | nil => intro s; simp [accP]
  | cons p r ih =>
    intro s
    have := ih (if ps.any (· == p) = true then s + t else s)
    simp only [accP, List.length_cons]
    split at this
    · rename_i h; rw [if_pos h]; omega
    · rename_i h; rw [if_neg h]; omega
theorem indexOf_any (zs : List Int) (q : Int) (v : Value) (w : World) (h : RdI w v zs) : Calls Try.prog 28 #[v, .int .i64 q] w fun e w' => ∃ x : Int, e = .returned (.int .i64 x) ∧ decide (0 ≤ x) = zs.any (· == q) ∧ w = w' := by
  obtain ⟨ad, cap, bl, off, rfl, hcap, hmax, had, hc⟩ := h.open
  have HC := Lib.hid hc
  clear h hc
  go_enter Try.func28, Try.ntmps28
  go_wp2
  go_loop [9] (fun i => ∃ k : Nat, k ≤ zs.length ∧ i = .int .i64 k ∧ Hid ((zs.drop k).any (· == q) = zs.any (· == q))) (fun i => zs.length - (intOf i).toNat)
  case atStart => exact ⟨0, Nat.zero_le _, rfl, rfl⟩
  case round =>
    obtain ⟨k, hk, rfl, H⟩ := hrel
    by_cases hlt : k < zs.length
    · obtain rfl := had (by omega)
      obtain ⟨x, hck, HX⟩ : ∃ x, w.cell? ⟨bl, off + k, none⟩ = some (.int .i64 x) ∧ Hid (zs.drop k = x :: zs.drop (k + 1)) := ⟨_, HC.out k hlt, drop_one hlt⟩
      by_cases hx : x = q
      · subst hx
        go_wp2
        go_ret
        exact ⟨_, rfl, by rw [← H.out, HX.out]; simp, rfl⟩
      · have hxb : (x == q) = false := beq_eq_false_iff_ne.2 hx
        go_wp2
        exact ⟨⟨k + 1, by omega, by go_num, by show _ = _; rw [← H.out, HX.out, List.any_cons, hxb]; rfl⟩, by simp [intOf]; omega⟩
    · go_wp2
      go_ret
      obtain rfl : k = zs.length := by omega
      exact ⟨_, rfl, by rw [← H.out, List.drop_length]; rfl, rfl⟩
set_option maxHeartbeats 1600000 in
theorem implTicksPlayed_any (zs : List CueV) (ps : List Int) (v u : Value) (w : World) (h : RdCue w v zs) (hp : RdI w u ps) :
    Calls Try.prog 12 #[v, u] w fun e w' => e = .returned (.int .i64 (ticksF zs ps)) ∧ Below w.heap.size w w' := by
  have HP := Lib.hid hp
  have HR := Lib.hid h
  obtain ⟨ap, cp, rfl⟩ := hp.shape
  clear hp
  obtain ⟨ad, cap, bl, off, rfl, hcap, hmax, had, hc⟩ := h
  have HC := Lib.hid hc
  clear hc
  cases hok : cuesB zs with
  | false =>
    have hv : ticksF zs ps = -1 := if_neg (by simp [hok])
    rw [hv]
    clear hv
    go_enter Try.func12, Try.ntmps12
    go_wp2_with (fail)
    refine (implCuesOk_any zs _ _ HR.out).mono ?_
    rintro e w1 ⟨rfl, hb⟩
    rw [hok]
    go_wp2_with (fail)
    go_ret
    exact ⟨rfl, hb⟩
  | true =>
    have hv : ticksF zs ps = accC ps zs 0 := if_pos hok
    rw [hv]
    clear hv
    obtain ⟨hn12, hget⟩ := cues_get hok
    have HG := Lib.hid hget
    clear hget
    go_enter Try.func12, Try.ntmps12
    go_wp2_with (fail)
    refine (implCuesOk_any zs _ _ HR.out).mono ?_
    rintro e w1 ⟨rfl, hb⟩
    rw [hok]
    go_wp2_with (fail)
    go_loopw [5, 15] (fun s i wr => ∃ (k : Nat) (x : Int), k ≤ zs.length ∧ i = .int .i64 k ∧ s = .int .i64 x ∧ 0 ≤ x ∧ x ≤ 350 * k ∧ Below w.heap.size w wr ∧ Hid (accC ps (zs.drop k) x = accC ps zs 0)) (fun _ i _ => zs.length - (intOf i).toNat)
    case atStart => exact ⟨0, 0, Nat.zero_le _, rfl, rfl, by omega, by omega, hb, rfl⟩
    case round =>
     as_aux_lemma =>
      clear hb
      obtain ⟨k, s0, hk, rfl, rfl, s00, s01, hB, H⟩ := hrel
      obtain ⟨wo, rfl⟩ : ∃ wo : World, wo = wr := ⟨_, rfl⟩
      by_cases hlt : k < zs.length
      · obtain rfl := had (by omega)
        obtain ⟨⟨t, a, p⟩, hz, hzm, hd, _⟩ := getC hlt
        obtain ⟨u1, u2, k0, k1, k2, r1, r2⟩ := HC.out k _ hz
        replace k0 := cell_on hB k0
        replace k1 := cell_on hB k1
        replace k2 := cell_on hB k2
        dsimp only at k0 r1 r2
        obtain ⟨a1, c1', rfl⟩ := r1.shape
        obtain ⟨b2, c2', bl2, off2, rfl, hcp2, hmx2, had2, hcc2⟩ := r2.open
        obtain ⟨⟨t0, t1⟩, hp7⟩ := HG.out _ hzm
        dsimp only at t0 t1 hp7
        have hb1 := below_alloc1 wo (.cells #[.int .i64 t, .slice a1 a.length c1', .slice b2 p.length c2'] 53)
        have hB2 := bvia hB hb1
        have c0 : (wo.alloc (.cells #[.int .i64 t, .slice a1 a.length c1', .slice b2 p.length c2'] 53)).cell? ⟨wo.heap.size, 0, none⟩ = some (.int .i64 t) := by simp [go_sem]
        have HC2 := Lib.hid hcc2
        have HS : Hid (accC ps (zs.drop (k + 1)) (accP t ps p s0) = accC ps zs 0) := by show _ = _; rw [← H.out, hd]; rfl
        have hbd := accP_bd t (by omega) ps p s0
        clear hz hd hzm hcc2 H r1 r2
        go_wp2_with (fail)
        generalize hwc : wo.alloc (.cells #[.int .i64 t, .slice a1 a.length c1', .slice b2 p.length c2'] 53) = wc at c0 hB2 ⊢
        clear hwc hb1 k0 k1 k2 hB
        obtain ⟨g7, hg7⟩ : ∃ g7, wo.heap.size = g7 := ⟨_, rfl⟩
        rw [hg7] at c0 ⊢
        clear hg7
        go_loopw [5, 22] (fun s i wr => ∃ (j : Nat) (x : Int), j ≤ p.length ∧ i = .int .i64 j ∧ s = .int .i64 x ∧ 0 ≤ x ∧ x ≤ 350 * k + 50 * j ∧ wr = wc ∧ Hid (accP t ps (p.drop j) x = accP t ps p s0)) (fun _ i _ => p.length - (intOf i).toNat)
        case atStart => exact ⟨0, s0, Nat.zero_le _, rfl, rfl, by omega, by omega, rfl, rfl⟩
        case round =>
          obtain ⟨j, x, hj, rfl, rfl, x0, x1, rfl, HX⟩ := hrel
          by_cases hjl : j < p.length
          · obtain rfl := had2 (by omega)
            have hck := cell_on hB2 (HC2.out j hjl)
            obtain ⟨q, hq, _, hqd, _⟩ := getC hjl
            have hqv : p.getD j 0 = q := by rw [List.getD_eq_getElem?_getD, hq]; rfl
            rw [hqv] at hck
            have HQ : Hid (accP t ps (p.drop (j + 1)) (if ps.any (· == q) = true then x + t else x) = accP t ps p s0) := by show _ = _; rw [← HX.out, hqd]; rfl
            clear hq hqd hqv HX
            go_wp2_with (fail)
            refine (indexOf_any ps q _ _ (HP.out.below hB2)).mono ?_
            rintro e w9 ⟨y, rfl, hy, rfl⟩
            cases hany : ps.any (· == q) with
            | true =>
              rw [hany] at hy HQ
              rw [if_pos rfl] at HQ
              have hy0 : 0 ≤ y := of_decide_eq_true hy
              go_wp2_with (fail)
              exact ⟨⟨j + 1, x + t, by omega, by go_num, rfl, by omega, by omega, trivial, HQ.out⟩, by simp [intOf]; omega⟩
            | false =>
              rw [hany] at hy HQ
              rw [if_neg (by simp)] at HQ
              have hy0 : ¬ 0 ≤ y := of_decide_eq_false hy
              go_wp2_with (fail)
              exact ⟨⟨j + 1, x, by omega, by go_num, rfl, by omega, by omega, trivial, HQ.out⟩, by simp [intOf]; omega⟩
          · have hfin := HX.out
            rw [List.drop_eq_nil_of_le (by omega)] at hfin
            have hfx : x = accP t ps p s0 := hfin
            rw [← hfx] at HS hbd
            clear hfin hfx HX
            go_wp2_with (fail)
            exact ⟨⟨k + 1, x, by omega, by go_num, rfl, by omega, by omega, hB2, HS.out⟩, by simp [intOf]; omega⟩
      · have hfin := H.out
        rw [List.drop_eq_nil_of_le (by omega)] at hfin
        have HF := Lib.hid (show s0 = accC ps zs 0 from hfin)
        clear hfin H
        go_wp2_with (fail)
        go_ret
        exact ⟨ret_int HF.out, hB⟩
set_option maxHeartbeats 1600000 in
theorem specTicksPlayed_any (zs : List CueV) (ps : List Int) (v u : Value) (w : World) (h : RdCue w v zs) (hp : RdI w u ps) :
    Calls Try.prog 16 #[v, u] w fun e w' => e = .returned (.int .i64 (ticksF zs ps)) ∧ Below w.heap.size w w' := by
  have HR := Lib.hid h
  obtain ⟨ap, cp, blp, offp, rfl, hcpp, hmxp, hadp, hccp⟩ := hp.open
  have HCP := Lib.hid hccp
  clear hp hccp
  obtain ⟨ad, cap, bl, off, rfl, hcap, hmax, had, hc⟩ := h
  have HC := Lib.hid hc
  clear hc
  cases hok : cuesB zs with
  | false =>
    have hv : ticksF zs ps = -1 := if_neg (by simp [hok])
    rw [hv]
    clear hv
    go_enter Try.func16, Try.ntmps16
    go_wp2_with (fail)
    refine (specCuesOk_any zs _ _ HR.out).mono ?_
    rintro e w1 ⟨rfl, hb⟩
    rw [hok]
    go_wp2_with (fail)
    go_ret
    exact ⟨rfl, hb⟩
  | true =>
    have hv : ticksF zs ps = accC ps zs 0 := if_pos hok
    rw [hv]
    clear hv
    obtain ⟨hn12, hget⟩ := cues_get hok
    have HG := Lib.hid hget
    clear hget
    go_enter Try.func16, Try.ntmps16
    go_wp2_with (fail)
    refine (specCuesOk_any zs _ _ HR.out).mono ?_
    rintro e w1 ⟨rfl, hb⟩
    rw [hok]
    go_wp2_with (fail)
    go_loopw [5, 6] (fun s i wr => ∃ (k : Nat) (x : Int), k ≤ zs.length ∧ i = .int .i64 k ∧ s = .int .i64 x ∧ 0 ≤ x ∧ x ≤ 350 * k ∧ Below w.heap.size w wr ∧ Hid (accC ps (zs.drop k) x = accC ps zs 0)) (fun _ i _ => zs.length - (intOf i).toNat)
    case atStart => exact ⟨0, 0, Nat.zero_le _, rfl, rfl, by omega, by omega, hb, rfl⟩
    case round =>
     as_aux_lemma =>
      clear hb
      obtain ⟨k, s0, hk, rfl, rfl, s00, s01, hB, H⟩ := hrel
      obtain ⟨wo, rfl⟩ : ∃ wo : World, wo = wr := ⟨_, rfl⟩
      by_cases hlt : k < zs.length
      · obtain rfl := had (by omega)
        obtain ⟨⟨t, a, p⟩, hz, hzm, hd, _⟩ := getC hlt
        obtain ⟨u1, u2, k0, k1, k2, r1, r2⟩ := HC.out k _ hz
        dsimp only at k0 r1 r2
        obtain ⟨b2, c2', bl2, off2, rfl, hcp2, hmx2, had2, hcc2⟩ := r2.open
        obtain ⟨⟨t0, t1⟩, hp7⟩ := HG.out _ hzm
        dsimp only at t0 t1 hp7
        have HK0 := Lib.hid k0
        have HK2 := Lib.hid k2
        have HC2 := Lib.hid hcc2
        have HS : Hid (accC ps (zs.drop (k + 1)) (accP t ps p s0) = accC ps zs 0) := by show _ = _; rw [← H.out, hd]; rfl
        have hbd := accP_bd t (by omega) ps p s0
        have q1 : (k : Int) < (zs.length : Int) := by omega
        clear hz hd hzm hcc2 H r1 r2 k0 k1 k2
        go_wp2_with (fail)
        go_loopw [5, 7] (fun s i wr => ∃ (j : Nat) (x : Int), j ≤ p.length ∧ i = .int .i64 j ∧ s = .int .i64 x ∧ 0 ≤ x ∧ x ≤ 350 * k + 50 * j ∧ Below w.heap.size w wr ∧ Hid (accP t ps (p.drop j) x = accP t ps p s0)) (fun _ i _ => p.length - (intOf i).toNat)
        case atStart => exact ⟨0, s0, Nat.zero_le _, rfl, rfl, by omega, by omega, hB, rfl⟩
        case round =>
         as_aux_lemma =>
          clear hB
          obtain ⟨j, x, hj, rfl, rfl, x0, x1, hB, HX⟩ := hrel
          obtain ⟨wp, rfl⟩ : ∃ wp : World, wp = wr := ⟨_, rfl⟩
          have k2 := cell_on hB HK2.out
          by_cases hjl : j < p.length
          · obtain rfl := had2 (by omega)
            obtain ⟨q, hq, _, hqd, _⟩ := getC hjl
            have hqv : p.getD j 0 = q := by rw [List.getD_eq_getElem?_getD, hq]; rfl
            have HQC : Hid (w.cell? ⟨bl2, off2 + j, none⟩ = some (.int .i64 q)) := by show _ = _; rw [← hqv]; exact HC2.out j hjl
            have HQ : Hid (accP t ps (p.drop (j + 1)) (if ps.any (· == q) = true then x + t else x) = accP t ps p s0) := by show _ = _; rw [← HX.out, hqd]; rfl
            have q2 : (j : Int) < (p.length : Int) := by omega
            clear hq hqd hqv HX
            go_wp2_with (fail)
            go_loopw [8, 9] (fun f i wr => ∃ (m : Nat) (b : Bool), m ≤ ps.length ∧ i = .int .i64 m ∧ f = .bool b ∧ Below w.heap.size w wr ∧ Hid ((b || (ps.drop m).any (· == q)) = ps.any (· == q))) (fun _ i _ => ps.length - (intOf i).toNat)
            case atStart => exact ⟨0, false, Nat.zero_le _, rfl, rfl, hB, rfl⟩
            case round =>
             as_aux_lemma =>
              clear hB k2
              obtain ⟨m, b, hm, rfl, rfl, hB, HM⟩ := hrel
              have k0 := cell_on hB HK0.out
              have k2 := cell_on hB HK2.out
              have kq := cell_on hB HQC.out
              by_cases hml : m < ps.length
              · obtain rfl := hadp (by omega)
                have km := cell_on hB (HCP.out m hml)
                obtain ⟨y, hy, _, hyd, _⟩ := getC hml
                have hyv : ps.getD m 0 = y := by rw [List.getD_eq_getElem?_getD, hy]; rfl
                rw [hyv] at km
                have HN : Hid (((b || y == q) || (ps.drop (m + 1)).any (· == q)) = ps.any (· == q)) := by show _ = _; rw [← HM.out, hyd, List.any_cons, Bool.or_assoc]
                have q3 : (m : Int) < (ps.length : Int) := by omega
                clear hy hyd hyv HM
                cases b with
                | true =>
                  go_wp2
                  go_quiet (fail)
                  go_wp2
                  exact ⟨⟨m + 1, true, by omega, by go_num, rfl, hB.trans (below_draws _ _ _), by show _ = _; rw [← HN.out]; simp⟩, by simp [intOf]; omega⟩
                | false =>
                  go_wp2
                  go_quiet (fail)
                  go_wp2
                  exact ⟨⟨m + 1, y == q, by omega, by go_num, rfl, hB.trans (below_draws _ _ _), by show _ = _; rw [← HN.out]; simp⟩, by simp [intOf]; omega⟩
              · have hfin := HM.out
                rw [List.drop_eq_nil_of_le (by omega), List.any_nil, Bool.or_false] at hfin
                rw [← hfin] at HQ
                clear hfin HM
                cases b with
                | true =>
                  rw [if_pos rfl] at HQ
                  go_wp2_with (fail)
                  exact ⟨⟨j + 1, x + t, by omega, by go_num, rfl, by omega, by omega, hB, HQ.out⟩, by simp [intOf]; omega⟩
                | false =>
                  rw [if_neg (by simp)] at HQ
                  go_wp2_with (fail)
                  exact ⟨⟨j + 1, x, by omega, by go_num, rfl, by omega, by omega, hB, HQ.out⟩, by simp [intOf]; omega⟩
          · have hfin := HX.out
            rw [List.drop_eq_nil_of_le (by omega)] at hfin
            have hfx : x = accP t ps p s0 := hfin
            rw [← hfx] at HS hbd
            clear hfin hfx HX
            go_wp2_with (fail)
            exact ⟨⟨k + 1, x, by omega, by go_num, rfl, by omega, by omega, hB, HS.out⟩, by simp [intOf]; omega⟩
      · have hfin := H.out
        rw [List.drop_eq_nil_of_le (by omega)] at hfin
        have HF := Lib.hid (show s0 = accC ps zs 0 from hfin)
        clear hfin H
        go_wp2_with (fail)
        go_ret
        exact ⟨ret_int HF.out, hB⟩
theorem walkFnExactTicksPlayed (zs : List CueV) (ps : List Int) (v u : Value) (w : World) (hz : RdCue w v zs) (hp : RdI w u ps) : Calls Try.prog 4 #[v, u] w fun e w' => e = .returned (.bool true) ∧ Below w.heap.size w w' := by
  obtain ⟨ap, cp, rfl⟩ := hp.shape
  by_cases hpl : ps.length ≤ 1048576
  · have hB := Below.refl w.heap.size w
    go_enter Try.func4, Try.ntmps4
    go_wp2_with (fail)
    refine (szCueS_any zs _ (by omega) (by omega) _ _ hz).mono ?_
    rintro e w1 ⟨rfl, hb⟩
    replace hB := bvia hB hb
    clear hb
    by_cases hl : (zs.length : Int) + totC zs ≤ 1048576
    · rw [if_pos hl]
      go_wp2_with (fail)
      refine (toCueS_any zs (by omega) _ _ (hz.below hB)).mono ?_
      rintro e w2 ⟨ut, rfl, ot, hb⟩
      replace hB := bvia hB hb
      clear hb
      go_wp2_with (fail)
      refine (toIntS_any ps hpl _ _ (hp.below hB)).mono ?_
      rintro e w3 ⟨us, rfl, os, hb⟩
      replace ot := ot.below hb
      replace hB := bvia hB hb
      clear hb
      go_wp2_with (fail)
      refine (specTicksPlayed_any zs ps _ _ _ ot os.rd).mono ?_
      rintro e w4 ⟨rfl, hb⟩
      replace ot := ot.below hb
      replace os := os.below hb
      replace hB := bvia hB hb
      clear hb
      clear ot os
      go_wp2_with (fail)
      refine (toCueS_any zs (by omega) _ _ (hz.below hB)).mono ?_
      rintro e w5 ⟨ux, rfl, ox, hb⟩
      replace hB := bvia hB hb
      clear hb
      go_wp2_with (fail)
      refine (toIntS_any ps hpl _ _ (hp.below hB)).mono ?_
      rintro e w6 ⟨uy, rfl, oy, hb⟩
      replace ox := ox.below hb
      replace hB := bvia hB hb
      clear hb
      go_wp2_with (fail)
      refine (implTicksPlayed_any zs ps _ _ _ ox oy.rd).mono ?_
      rintro e w7 ⟨rfl, hb⟩
      replace ox := ox.below hb
      replace oy := oy.below hb
      replace hB := bvia hB hb
      clear hb
      go_wp2_with (fail)
      refine (toCueS_any zs (by omega) _ _ (hz.below hB)).mono ?_
      rintro e w8 ⟨up, rfl, op, hb⟩
      replace ox := ox.below hb
      replace oy := oy.below hb
      replace hB := bvia hB hb
      clear hb
      go_wp2_with (fail)
      refine (eqCueS_any zs _ _ _ ox op).mono ?_
      rintro e w9 ⟨rfl, hb⟩
      replace ox := ox.below hb
      replace oy := oy.below hb
      replace op := op.below hb
      replace hB := bvia hB hb
      clear hb
      go_wp2_with (fail)
      refine (toIntS_any ps hpl _ _ (hp.below hB)).mono ?_
      rintro e w10 ⟨uq, rfl, oq, hb⟩
      replace ox := ox.below hb
      replace oy := oy.below hb
      replace op := op.below hb
      replace hB := bvia hB hb
      clear hb
      go_wp2_with (fail)
      refine (eqIntS_any ps _ _ _ oy.rd oq.rd).mono ?_
      rintro e w11 ⟨rfl, hd⟩
      have hb := hd.below; clear hd
      replace ox := ox.below hb
      replace oy := oy.below hb
      replace op := op.below hb
      replace oq := oq.below hb
      replace hB := bvia hB hb
      clear hb
      go_wp2_with (fail)
      go_returns
      exact ⟨rfl, hB⟩
    · rw [if_neg hl]
      go_wp2_with (fail)
      go_returns
      exact ⟨rfl, hB⟩
  · go_enter Try.func4, Try.ntmps4
    go_wp2_with (fail)
    go_returns
    exact ⟨rfl, Below.refl _ _⟩
end Go.Proofs.Ytkkcglncjdoacaa
