/- The walks of SpotsOk, isSpot, spotOf: spots of a floor, no two on one square. -/
import Derived.Test.YtcpkbohopicabaaHlSpot
import Derived.Test.YtcpkbohopicabaaRg
namespace Go.Proofs.Ytcpkbohopicabaa
open Go.ChangeShapes Go.WideShapes Go.ChangeAt Go.RowKit Go.Joins
set_option linter.unusedSimpArgs false
set_option linter.unusedVariables false

abbrev Sp := Int × Int
def spotB (wd ht : Int) (x : Sp) : Bool := inB x.1 0 (wd - 1) && inB x.2 0 (ht - 1)
def eqS (x y : Sp) : Bool := x.1 == y.1 && x.2 == y.2
/-- The first index of spot p from place k on; -1 if there is none. -/
def spotOfF (p : Sp) : List Sp → Int → Int
  | [], _ => -1
  | x :: r, k => if eqS x p = true then k else spotOfF p r (k + 1)
def hasSpot (p : Sp) (zs : List Sp) : Bool := zs.any fun x => eqS x p
theorem spotOfF_ge (p : Sp) (zs : List Sp) : ∀ k : Int, 0 ≤ k → (0 ≤ spotOfF p zs k ↔ hasSpot p zs = true) := by
  induction zs with
  | nil => intro k _; simp [spotOfF, hasSpot]
  | cons x r ih =>
    intro k hk
    by_cases h : eqS x p = true
    · simp [spotOfF, hasSpot, h, hk]
    · have := ih (k + 1) (by omega)
      simpa [spotOfF, hasSpot, h] using this
theorem eqS_yes {x0 x1 y0 y1 : Int} (h0 : x0 = y0) (h1 : x1 = y1) : eqS (x0, x1) (y0, y1) = true := by simp [eqS, h0, h1]
theorem eqS_no0 {x0 x1 y0 y1 : Int} (h0 : x0 ≠ y0) : eqS (x0, x1) (y0, y1) = false := by simp [eqS, h0]
theorem eqS_no1 {x0 x1 y0 y1 : Int} (h1 : x1 ≠ y1) : eqS (x0, x1) (y0, y1) = false := by simp [eqS, h1]
theorem eqS_iff {x y : Sp} : eqS x y = true ↔ x = y := by
  obtain ⟨x0, x1⟩ := x
  obtain ⟨y0, y1⟩ := y
  simp [eqS]
/-- Each spot is one, and no two are one; A: the spots before. -/
def spotsF (wd ht : Int) : List Sp → List Sp → Bool
  | _, [] => true
  | A, x :: r => spotB wd ht x && !hasSpot x A && spotsF wd ht (A ++ [x]) r
theorem spotsF_cons (wd ht : Int) (A : List Sp) (x : Sp) (r : List Sp) : spotsF wd ht A (x :: r) = (spotB wd ht x && !hasSpot x A && spotsF wd ht (A ++ [x]) r) := rfl
def spotsB (wd ht : Int) (zs : List Sp) : Bool := inB wd 1 12 && inB ht 1 12 && decide (zs.length ≤ 7) && spotsF wd ht [] zs
theorem drop_get? {α : Type} {zs : List α} {k : Nat} {x : α} (h : zs[k]? = some x) : zs.drop k = x :: zs.drop (k + 1) := by
  have hk := (List.getElem?_eq_some_iff.1 h).1
  rw [List.drop_eq_getElem_cons hk]
  congr 1
  exact (List.getElem?_eq_some_iff.1 h).2
theorem take_get? {α : Type} {zs : List α} {k : Nat} {x : α} (h : zs[k]? = some x) : zs.take (k + 1) = zs.take k ++ [x] := by
  have hk := (List.getElem?_eq_some_iff.1 h).1
  rw [List.take_succ_eq_append_getElem hk]
  congr 1
  simp [(List.getElem?_eq_some_iff.1 h).2]
theorem RdSpot.take {w : World} {zs : List (Int × Int)} {bl off cap k : Nat} (hcap : zs.length ≤ cap) (hmax : cap ≤ 9223372036854775807) (hk : k ≤ zs.length)
    (hc : ∀ i, i < zs.length → w.cell? ⟨bl, off + i * 2, none⟩ = some (.int .i64 (zs.getD i (0, 0)).1) ∧ w.cell? ⟨bl, off + i * 2 + 1, none⟩ = some (.int .i64 (zs.getD i (0, 0)).2)) :
    RdSpot w (.slice (some ⟨bl, off, none⟩) k cap) (zs.take k) := by
  refine ⟨_, cap, bl, off, by rw [List.length_take]; congr 1; omega, by rw [List.length_take]; omega, hmax, fun _ => rfl, fun j u hj => ?_⟩
  have hq : j = j / 2 * 2 + j % 2 := by omega
  have hr : j % 2 < 2 := Nat.mod_lt _ (by omega)
  generalize hqq : j / 2 = q at hq
  generalize hrr : j % 2 = r at hq hr
  subst hq
  clear hqq hrr
  have hql : ∀ y, (zs.take k)[q]? = some y → q < zs.length ∧ zs.getD q (0, 0) = y := by
    intro y hy
    rw [List.getElem?_take] at hy
    split at hy
    · have := (List.getElem?_eq_some_iff.1 hy).1
      exact ⟨this, by rw [List.getD_eq_getElem?_getD, hy]; rfl⟩
    · cases hy
  match r, hr with
  | 0, _ =>
    rw [Nat.add_zero, flSpot_get0] at hj
    obtain ⟨y, hy, rfl⟩ := Option.map_eq_some_iff.1 hj
    obtain ⟨h1, h2⟩ := hql y hy
    rw [← h2]
    exact (hc q h1).1
  | 1, _ =>
    rw [flSpot_get1] at hj
    obtain ⟨y, hy, rfl⟩ := Option.map_eq_some_iff.1 hj
    obtain ⟨h1, h2⟩ := hql y hy
    rw [← h2]
    exact (hc q h1).2
theorem isSpot_any (wd ht x0 x1 : Int) (hw : 1 ≤ wd ∧ wd ≤ 12) (hh : 1 ≤ ht ∧ ht ≤ 12) (w : World) :
    Calls Try.prog 43 #[.int .i64 wd, .int .i64 ht, .agg #[.int .i64 x0, .int .i64 x1]] w fun e w' => e = .returned (.bool (spotB wd ht (x0, x1))) ∧ Below w.heap.size w w' := by
  have cw : ∀ (x lo hi : Int) (b : Bool), inB x lo hi = b → ∀ u, Calls Try.prog 42 #[.int .i64 x, .int .i64 lo, .int .i64 hi] u fun e w' => e = .returned (.bool b) ∧ u = w' := fun x lo hi b hb u => by have := within_any x lo hi u; rwa [hb] at this
  have hB := below_alloc1 w (.cells #[.int .i64 x0, .int .i64 x1] 50)
  cases h0 : inB x0 0 (wd - 1) with
  | false =>
    rw [show spotB wd ht (x0, x1) = false by simp [spotB, h0]]
    go_enter Try.func43, Try.ntmps43
    go_wp2_with (fail)
    refine (cw x0 _ _ _ h0 _).mono ?_
    rintro e w1 ⟨rfl, rfl⟩
    go_wp2_with (fail)
    go_ret
    exact ⟨rfl, hB⟩
  | true =>
    rw [show spotB wd ht (x0, x1) = inB x1 0 (ht - 1) by simp [spotB, h0]]
    go_enter Try.func43, Try.ntmps43
    go_wp2_with (fail)
    refine (cw x0 _ _ _ h0 _).mono ?_
    rintro e w1 ⟨rfl, rfl⟩
    go_wp2_with (fail)
    refine (within_any x1 _ _ _).mono ?_
    rintro e w1 ⟨rfl, rfl⟩
    go_wp2_with (fail)
    go_ret
    exact ⟨rfl, hB⟩
theorem spotOf_any (zs : List Sp) (p0 p1 : Int) (v : Value) (w : World) (h : RdSpot w v zs) : Calls Try.prog 44 #[v, .agg #[.int .i64 p0, .int .i64 p1]] w fun e w' => e = .returned (.int .i64 (spotOfF (p0, p1) zs 0)) ∧ Below w.heap.size w w' := by
  obtain ⟨ad, cap, bl, off, rfl, hcap, hmax, had, hc⟩ := h.open
  have HC := Lib.hid hc
  clear h hc
  have hB0 := below_alloc1 w (.cells #[.int .i64 p0, .int .i64 p1] 50)
  have hn0 : (w.alloc (.cells #[.int .i64 p0, .int .i64 p1] 50)).cell? ⟨w.heap.size, 0, none⟩ = some (.int .i64 p0) := by simp [go_sem]
  have hn1 : (w.alloc (.cells #[.int .i64 p0, .int .i64 p1] 50)).cell? ⟨w.heap.size, 1, none⟩ = some (.int .i64 p1) := by simp [go_sem]
  have HN := Lib.hid (And.intro hn0 hn1)
  clear hn0 hn1
  go_enter Try.func44, Try.ntmps44
  go_wp2
  go_loopw [9] (fun i wr => ∃ k : Nat, k ≤ zs.length ∧ i = .int .i64 k ∧ Below w.heap.size w wr ∧ Hid (wr.cell? ⟨w.heap.size, 0, none⟩ = some (.int .i64 p0) ∧ wr.cell? ⟨w.heap.size, 1, none⟩ = some (.int .i64 p1)) ∧ Hid (spotOfF (p0, p1) (zs.drop k) k = spotOfF (p0, p1) zs 0)) (fun i _ => zs.length - (intOf i).toNat)
  case atStart => exact ⟨0, Nat.zero_le _, rfl, hB0, HN.out, rfl⟩
  case round =>
    clear HN hB0
    obtain ⟨k, hk, rfl, hB, HN, H⟩ := hrel
    by_cases hlt : k < zs.length
    · obtain rfl := had (by omega)
      obtain ⟨⟨x0, x1⟩, hx⟩ : ∃ x, zs[k]? = some x := ⟨_, List.getElem?_eq_getElem hlt⟩
      have hsrc : wr.cell? ⟨bl, off + k * 2, none⟩ = some (.int .i64 x0) ∧ wr.cell? ⟨bl, off + k * 2 + 1, none⟩ = some (.int .i64 x1) := by
        have h1 := HC.out k hlt
        rw [List.getD_eq_getElem?_getD, hx] at h1
        exact ⟨cell_on hB h1.1, cell_on hB h1.2⟩
      obtain ⟨hck0, hck1⟩ := hsrc
      have HX := Lib.hid (And.intro (drop_get? hx) (take_get? hx))
      clear hx
      obtain ⟨n0, n1⟩ := HN.out
      have hB2 := hB.alloc hB.size (.cells #[.int .i64 x0, .int .i64 x1] 50)
      have HN2 := Lib.hid (And.intro (cell_on (below_alloc1 wr (.cells #[.int .i64 x0, .int .i64 x1] 50)) n0) (cell_on (below_alloc1 wr (.cells #[.int .i64 x0, .int .i64 x1] 50)) n1))
      obtain ⟨m0, m1⟩ := HN2.out
      by_cases e0 : x0 = p0
      · by_cases e1 : x1 = p1
        · have he := eqS_yes e0 e1
          have HF : Hid (spotOfF (p0, p1) zs 0 = k) := by show _ = _; rw [← H.out, HX.out.1]; simp [spotOfF, he]
          clear he
          subst e0
          subst e1
          go_wp2
          go_ret
          exact ⟨ret_int HF.out.symm, hB2⟩
        · have he := eqS_no1 (x0 := x0) (y0 := p0) e1
          have HF : Hid (spotOfF (p0, p1) (zs.drop (k + 1)) ((k + 1 : Nat) : Int) = spotOfF (p0, p1) zs 0) := by show _ = _; rw [← H.out, HX.out.1]; simp [spotOfF, he]
          have e1b : (x1 == p1) = false := beq_eq_false_iff_ne.2 e1
          clear he
          subst e0
          go_wp2
          exact ⟨⟨k + 1, by omega, by go_num, hB2, ⟨m0, m1⟩, HF⟩, by simp [intOf]; omega⟩
      · have he := eqS_no0 (x1 := x1) (y1 := p1) e0
        have HF : Hid (spotOfF (p0, p1) (zs.drop (k + 1)) ((k + 1 : Nat) : Int) = spotOfF (p0, p1) zs 0) := by show _ = _; rw [← H.out, HX.out.1]; simp [spotOfF, he]
        have e0b : (x0 == p0) = false := beq_eq_false_iff_ne.2 e0
        clear he
        go_wp2
        exact ⟨⟨k + 1, by omega, by go_num, hB2, ⟨m0, m1⟩, HF⟩, by simp [intOf]; omega⟩
    · go_wp2
      go_ret
      obtain rfl : k = zs.length := by omega
      exact ⟨ret_int (by rw [← H.out, List.drop_length]; rfl), hB⟩
set_option maxHeartbeats 3200000 in
theorem implSpotsOk_any (wd ht : Int) (zs : List Sp) (v : Value) (w : World) (h : RdSpot w v zs) : Calls Try.prog 13 #[.int .i64 wd, .int .i64 ht, v] w fun e w' => e = .returned (.bool (spotsB wd ht zs)) ∧ Below w.heap.size w w' := by
  have cw : ∀ (x lo hi : Int) (b : Bool), inB x lo hi = b → ∀ u, Calls Try.prog 42 #[.int .i64 x, .int .i64 lo, .int .i64 hi] u fun e w' => e = .returned (.bool b) ∧ u = w' := fun x lo hi b hb u => by have := within_any x lo hi u; rwa [hb] at this
  obtain ⟨ad, cap, bl, off, rfl, hcap, hmax, had, hc⟩ := h.open
  have HC := Lib.hid hc
  clear h hc
  cases hw : inB wd 1 12 with
  | false =>
    rw [show spotsB wd ht zs = false by simp [spotsB, hw]]
    go_enter Try.func13, Try.ntmps13
    go_wp2_with (fail)
    refine (cw wd _ _ _ hw _).mono ?_
    rintro e w1 ⟨rfl, rfl⟩
    go_wp2_with (fail)
    go_ret
    exact ⟨rfl, Below.refl _ _⟩
  | true =>
    cases hh : inB ht 1 12 with
    | false =>
      rw [show spotsB wd ht zs = false by simp [spotsB, hh]]
      go_enter Try.func13, Try.ntmps13
      go_wp2_with (fail)
      refine (cw wd _ _ _ hw _).mono ?_
      rintro e w1 ⟨rfl, rfl⟩
      go_wp2_with (fail)
      refine (cw ht _ _ _ hh _).mono ?_
      rintro e w1 ⟨rfl, rfl⟩
      go_wp2_with (fail)
      go_ret
      exact ⟨rfl, Below.refl _ _⟩
    | true =>
      by_cases h7 : zs.length ≤ 7
      · rw [show spotsB wd ht zs = spotsF wd ht [] zs by simp [spotsB, hw, hh, h7]]
        have hwb := inB_true.1 hw
        have hhb := inB_true.1 hh
        go_enter Try.func13, Try.ntmps13
        go_wp2_with (fail)
        refine (cw wd _ _ _ hw _).mono ?_
        rintro e w1 ⟨rfl, rfl⟩
        go_wp2_with (fail)
        refine (cw ht _ _ _ hh _).mono ?_
        rintro e w1 ⟨rfl, rfl⟩
        have h7i : ¬ (7 : Int) < (zs.length : Int) := by omega
        go_wp2_with (fail)
        go_loopw [24] (fun i wr => ∃ k : Nat, k ≤ zs.length ∧ i = .int .i64 k ∧ Below w.heap.size w wr ∧ Hid (spotsF wd ht (zs.take k) (zs.drop k) = spotsF wd ht [] zs)) (fun i _ => zs.length - (intOf i).toNat)
        case atStart => exact ⟨0, Nat.zero_le _, rfl, Below.refl _ _, rfl⟩
        case round =>
         as_aux_lemma =>
          obtain ⟨k, hk, rfl, hB, H⟩ := hrel
          by_cases hlt : k < zs.length
          · obtain rfl := had (by omega)
            obtain ⟨⟨x0, x1⟩, hx⟩ : ∃ x, zs[k]? = some x := ⟨_, List.getElem?_eq_getElem hlt⟩
            have hsrc : wr.cell? ⟨bl, off + k * 2, none⟩ = some (.int .i64 x0) ∧ wr.cell? ⟨bl, off + k * 2 + 1, none⟩ = some (.int .i64 x1) := by
              have h1 := HC.out k hlt
              rw [List.getD_eq_getElem?_getD, hx] at h1
              exact ⟨cell_on hB h1.1, cell_on hB h1.2⟩
            obtain ⟨hck0, hck1⟩ := hsrc
            have HX := Lib.hid (And.intro (drop_get? hx) (take_get? hx))
            clear hx
            have hrd : RdSpot wr (.slice (some ⟨bl, off, none⟩) k cap) (zs.take k) := RdSpot.take hcap hmax hk (fun i hi => ⟨cell_on hB (HC.out i hi).1, cell_on hB (HC.out i hi).2⟩)
            have HR := Lib.hid hrd
            clear hrd
            have hB2 := below_alloc1 wr (.cells #[.int .i64 x0, .int .i64 x1] 50)
            have hB0 := hB
            have q1 : (k : Int) ≤ (cap : Int) := by omega
            have q2 : k ≤ cap := by omega
            go_wp2
            obtain ⟨W, hW⟩ : ∃ W, W = wr.alloc (.cells #[.int .i64 x0, .int .i64 x1] 50) := ⟨_, rfl⟩
            have k0 : W.cell? ⟨wr.heap.size, 0, none⟩ = some (.int .i64 x0) := by rw [hW]; simp [go_sem]
            have k1 : W.cell? ⟨wr.heap.size, 1, none⟩ = some (.int .i64 x1) := by rw [hW]; simp [go_sem]
            rw [← hW] at hB2 ⊢
            clear hW
            replace hB2 := hB2.drew
            have hout : ∀ b : Bool, (spotB wd ht (x0, x1) && !hasSpot (x0, x1) (zs.take k)) = b → spotsF wd ht [] zs = (b && spotsF wd ht (zs.take (k + 1)) (zs.drop (k + 1))) := fun b hb => by
              rw [← H.out, HX.out.1, spotsF_cons, HX.out.2]
              exact congrArg (· && _) hb
            have HO := Lib.hid hout
            clear hout
            have HI0 := Lib.hid (fun u => isSpot_any wd ht x0 x1 hwb hhb u)
            cases h0 : spotB wd ht (x0, x1) with
            | false =>
              have HI := HI0
              rw [h0] at HI
              clear HI0
              refine wp_region_held_drew (S := (fun w' => w'.cell? ⟨wr.heap.size, 0, none⟩ = some (.int .i64 x0) ∧ w'.cell? ⟨wr.heap.size, 1, none⟩ = some (.int .i64 x1))) (by kernel_rfl) (by first | (dsimp only; done) | ((try dsimp only); exact ⟨k0, k1⟩)) (fun hHeld => ?_)
              refine takeI (i := 0) (oi := _) (v := _) (by simp only [List.getElem?_toArray, List.getElem?_cons_succ, List.getElem?_cons_zero]; exact rfl) ⟨by kernel_rfl, by kernel_rfl, by kernel_rfl, by exact fun _ _ _ h => h, Or.inl ⟨by rfl, by (intro w hSw; (try dsimp only at hSw); go_simp; (try with_reducible rfl))⟩, by assumption, ?_⟩
              try simp only [Act.put, List.setIfInBounds_toArray, List.set_cons_zero, List.set_cons_succ]
              refine takeI (i := 1) (oi := _) (v := _) (by simp only [List.getElem?_toArray, List.getElem?_cons_succ, List.getElem?_cons_zero]; exact rfl) ⟨by kernel_rfl, by kernel_rfl, by kernel_rfl, by exact fun _ _ _ h => h, Or.inl ⟨by rfl, by (intro w hSw; (try dsimp only at hSw); go_simp; (try with_reducible rfl))⟩, by assumption, ?_⟩
              try simp only [Act.put, List.setIfInBounds_toArray, List.set_cons_zero, List.set_cons_succ]
              refine takeI (i := 2) (oi := _) (v := _) (by simp only [List.getElem?_toArray, List.getElem?_cons_succ, List.getElem?_cons_zero]; exact rfl) ⟨by kernel_rfl, by kernel_rfl, by kernel_rfl, by exact fun _ _ _ h => h, Or.inl ⟨by rfl, by (intro w hSw; (try dsimp only at hSw); go_simp; (try with_reducible rfl))⟩, by assumption, ?_⟩
              try simp only [Act.put, List.setIfInBounds_toArray, List.set_cons_zero, List.set_cons_succ]
              refine wpAnyH_ready (rs := [3]) (by kernel_rfl) (by simp) ?_
              refine AllReadyH.cons (o := _) (by simp only [List.getElem?_toArray, List.getElem?_cons_succ, List.getElem?_cons_zero]; exact rfl) (fun K hK => ?_) AllReadyH.nil
              go_simp
              go_at_call 43; (refine (HI.out _).mono ?_; rintro e w1 ⟨rfl, hb1⟩; replace hB2 := bvia hB2 hb1; replace k0 := cell_on hb1 k0; replace k1 := cell_on hb1 k1; clear hb1)
              go_wp2_with fail
              refine hK.out _ _ (by first | (dsimp only; done) | ((try dsimp only); exact ⟨k0, k1⟩)) (fun hHeld => ?_)
              clear hK K
              try simp only [Act.put, List.setIfInBounds_toArray, List.set_cons_zero, List.set_cons_succ]
              refine takeI (i := 4) (oi := _) (v := _) (by simp only [List.getElem?_toArray, List.getElem?_cons_succ, List.getElem?_cons_zero]; exact rfl) ⟨by kernel_rfl, by kernel_rfl, by kernel_rfl, by exact fun _ _ _ h => h, Or.inl ⟨by rfl, by (intro w hSw; (try dsimp only at hSw); go_simp; (try with_reducible rfl))⟩, by assumption, ?_⟩
              try simp only [Act.put, List.setIfInBounds_toArray, List.set_cons_zero, List.set_cons_succ]
              refine takeI (i := 5) (oi := _) (v := _) (by simp only [List.getElem?_toArray, List.getElem?_cons_succ, List.getElem?_cons_zero]; exact rfl) ⟨by kernel_rfl, by kernel_rfl, by kernel_rfl, by exact fun _ _ _ h => h, Or.inl ⟨by rfl, by (intro w hSw; (try dsimp only at hSw); go_simp; (try with_reducible rfl))⟩, by assumption, ?_⟩
              try simp only [Act.put, List.setIfInBounds_toArray, List.set_cons_zero, List.set_cons_succ]
              refine takeI (i := 6) (oi := _) (v := undef) (by simp only [List.getElem?_toArray, List.getElem?_cons_succ, List.getElem?_cons_zero]; exact rfl) ⟨by kernel_rfl, by kernel_rfl, by kernel_rfl, by exact fun _ _ _ h => h, Or.inr ⟨by rfl, rfl⟩, by assumption, ?_⟩
              try simp only [Act.put, List.setIfInBounds_toArray, List.set_cons_zero, List.set_cons_succ]
              refine takeI (i := 7) (oi := _) (v := undef) (by simp only [List.getElem?_toArray, List.getElem?_cons_succ, List.getElem?_cons_zero]; exact rfl) ⟨by kernel_rfl, by kernel_rfl, by kernel_rfl, by exact fun _ _ _ h => h, Or.inr ⟨by rfl, rfl⟩, by assumption, ?_⟩
              try simp only [Act.put, List.setIfInBounds_toArray, List.set_cons_zero, List.set_cons_succ]
              refine takeI (i := 8) (oi := _) (v := undef) (by simp only [List.getElem?_toArray, List.getElem?_cons_succ, List.getElem?_cons_zero]; exact rfl) ⟨by kernel_rfl, by kernel_rfl, by kernel_rfl, by exact fun _ _ _ h => h, Or.inr ⟨by rfl, rfl⟩, by assumption, ?_⟩
              try simp only [Act.put, List.setIfInBounds_toArray, List.set_cons_zero, List.set_cons_succ]
              refine takeI (i := 9) (oi := _) (v := undef) (by simp only [List.getElem?_toArray, List.getElem?_cons_succ, List.getElem?_cons_zero]; exact rfl) ⟨by kernel_rfl, by kernel_rfl, by kernel_rfl, by exact fun _ _ _ h => h, Or.inr ⟨by rfl, rfl⟩, by assumption, ?_⟩
              try simp only [Act.put, List.setIfInBounds_toArray, List.set_cons_zero, List.set_cons_succ]
              refine takeI (i := 10) (oi := _) (v := undef) (by simp only [List.getElem?_toArray, List.getElem?_cons_succ, List.getElem?_cons_zero]; exact rfl) ⟨by kernel_rfl, by kernel_rfl, by kernel_rfl, by exact fun _ _ _ h => h, Or.inr ⟨by rfl, rfl⟩, by assumption, ?_⟩
              try simp only [Act.put, List.setIfInBounds_toArray, List.set_cons_zero, List.set_cons_succ]
              refine takeI (i := 11) (oi := _) (v := undef) (by simp only [List.getElem?_toArray, List.getElem?_cons_succ, List.getElem?_cons_zero]; exact rfl) ⟨by kernel_rfl, by kernel_rfl, by kernel_rfl, by exact fun _ _ _ h => h, Or.inr ⟨by rfl, rfl⟩, by assumption, ?_⟩
              try simp only [Act.put, List.setIfInBounds_toArray, List.set_cons_zero, List.set_cons_succ]
              refine takeI (i := 12) (oi := _) (v := _) (by simp only [List.getElem?_toArray, List.getElem?_cons_succ, List.getElem?_cons_zero]; exact rfl) ⟨by kernel_rfl, by kernel_rfl, by kernel_rfl, by exact fun _ _ _ h => h, Or.inl ⟨by rfl, by (intro w hSw; (try dsimp only at hSw); go_simp; (try with_reducible rfl))⟩, by assumption, ?_⟩
              try simp only [Act.put, List.setIfInBounds_toArray, List.set_cons_zero, List.set_cons_succ]
              refine wpAnyH_done (by kernel_rfl) ?_ _
              go_wp2
              go_ret
              exact ⟨ret_bool (by rw [HO.out false (by simp [h0])]; simp), bvia hB0 hB2⟩
            | true =>
              have HI := HI0
              rw [h0] at HI
              clear HI0
              have hge := spotOfF_ge (x0, x1) (zs.take k) 0 (Int.le_refl 0)
              have hla := fun (u : World) (v : Value) (h : RdSpot u v (zs.take k)) => spotOf_any (zs.take k) x0 x1 v u h
              generalize spotOfF (x0, x1) (zs.take k) 0 = L at hge hla
              have HL := Lib.hid hla
              have HG := Lib.hid hge
              clear hla hge
              by_cases hl : 0 ≤ L
              · have ql : decide (0 ≤ L) = true := decide_eq_true hl
                refine wp_region_held_drew (S := (fun w' => w'.cell? ⟨wr.heap.size, 0, none⟩ = some (.int .i64 x0) ∧ w'.cell? ⟨wr.heap.size, 1, none⟩ = some (.int .i64 x1))) (by kernel_rfl) (by first | (dsimp only; done) | ((try dsimp only); exact ⟨k0, k1⟩)) (fun hHeld => ?_)
                refine takeI (i := 0) (oi := _) (v := _) (by simp only [List.getElem?_toArray, List.getElem?_cons_succ, List.getElem?_cons_zero]; exact rfl) ⟨by kernel_rfl, by kernel_rfl, by kernel_rfl, by exact fun _ _ _ h => h, Or.inl ⟨by rfl, by (intro w hSw; (try dsimp only at hSw); go_simp; (try with_reducible rfl))⟩, by assumption, ?_⟩
                try simp only [Act.put, List.setIfInBounds_toArray, List.set_cons_zero, List.set_cons_succ]
                refine takeI (i := 1) (oi := _) (v := _) (by simp only [List.getElem?_toArray, List.getElem?_cons_succ, List.getElem?_cons_zero]; exact rfl) ⟨by kernel_rfl, by kernel_rfl, by kernel_rfl, by exact fun _ _ _ h => h, Or.inl ⟨by rfl, by (intro w hSw; (try dsimp only at hSw); go_simp; (try with_reducible rfl))⟩, by assumption, ?_⟩
                try simp only [Act.put, List.setIfInBounds_toArray, List.set_cons_zero, List.set_cons_succ]
                refine takeI (i := 2) (oi := _) (v := _) (by simp only [List.getElem?_toArray, List.getElem?_cons_succ, List.getElem?_cons_zero]; exact rfl) ⟨by kernel_rfl, by kernel_rfl, by kernel_rfl, by exact fun _ _ _ h => h, Or.inl ⟨by rfl, by (intro w hSw; (try dsimp only at hSw); go_simp; (try with_reducible rfl))⟩, by assumption, ?_⟩
                try simp only [Act.put, List.setIfInBounds_toArray, List.set_cons_zero, List.set_cons_succ]
                refine wpAnyH_ready (rs := [3]) (by kernel_rfl) (by simp) ?_
                refine AllReadyH.cons (o := _) (by simp only [List.getElem?_toArray, List.getElem?_cons_succ, List.getElem?_cons_zero]; exact rfl) (fun K hK => ?_) AllReadyH.nil
                go_simp
                go_at_call 43; (refine (HI.out _).mono ?_; rintro e w1 ⟨rfl, hb1⟩; replace hB2 := bvia hB2 hb1; replace k0 := cell_on hb1 k0; replace k1 := cell_on hb1 k1; clear hb1)
                go_wp2_with fail
                refine hK.out _ _ (by first | (dsimp only; done) | ((try dsimp only); exact ⟨k0, k1⟩)) (fun hHeld => ?_)
                clear hK K
                try simp only [Act.put, List.setIfInBounds_toArray, List.set_cons_zero, List.set_cons_succ]
                refine takeI (i := 4) (oi := _) (v := _) (by simp only [List.getElem?_toArray, List.getElem?_cons_succ, List.getElem?_cons_zero]; exact rfl) ⟨by kernel_rfl, by kernel_rfl, by kernel_rfl, by exact fun _ _ _ h => h, Or.inl ⟨by rfl, by (intro w hSw; (try dsimp only at hSw); go_simp; (try with_reducible rfl))⟩, by assumption, ?_⟩
                try simp only [Act.put, List.setIfInBounds_toArray, List.set_cons_zero, List.set_cons_succ]
                refine takeI (i := 5) (oi := _) (v := _) (by simp only [List.getElem?_toArray, List.getElem?_cons_succ, List.getElem?_cons_zero]; exact rfl) ⟨by kernel_rfl, by kernel_rfl, by kernel_rfl, by exact fun _ _ _ h => h, Or.inl ⟨by rfl, by (intro w hSw; (try dsimp only at hSw); go_simp; (try with_reducible rfl))⟩, by assumption, ?_⟩
                try simp only [Act.put, List.setIfInBounds_toArray, List.set_cons_zero, List.set_cons_succ]
                refine takeI (i := 6) (oi := _) (v := _) (by simp only [List.getElem?_toArray, List.getElem?_cons_succ, List.getElem?_cons_zero]; exact rfl) ⟨by kernel_rfl, by kernel_rfl, by kernel_rfl, by exact fun _ _ _ h => h, Or.inl ⟨by rfl, by (intro w hSw; (try dsimp only at hSw); go_simp; (try with_reducible rfl))⟩, by assumption, ?_⟩
                try simp only [Act.put, List.setIfInBounds_toArray, List.set_cons_zero, List.set_cons_succ]
                refine takeI (i := 7) (oi := _) (v := _) (by simp only [List.getElem?_toArray, List.getElem?_cons_succ, List.getElem?_cons_zero]; exact rfl) ⟨by kernel_rfl, by kernel_rfl, by kernel_rfl, by exact fun _ _ _ h => h, Or.inl ⟨by rfl, by (intro w hSw; (try dsimp only at hSw); go_simp; (try with_reducible rfl))⟩, by assumption, ?_⟩
                try simp only [Act.put, List.setIfInBounds_toArray, List.set_cons_zero, List.set_cons_succ]
                refine takeI (i := 8) (oi := _) (v := _) (by simp only [List.getElem?_toArray, List.getElem?_cons_succ, List.getElem?_cons_zero]; exact rfl) ⟨by kernel_rfl, by kernel_rfl, by kernel_rfl, by exact fun _ _ _ h => h, Or.inl ⟨by rfl, by (intro w hSw; (try dsimp only at hSw); go_simp; (try with_reducible rfl))⟩, by assumption, ?_⟩
                try simp only [Act.put, List.setIfInBounds_toArray, List.set_cons_zero, List.set_cons_succ]
                refine takeI (i := 9) (oi := _) (v := _) (by simp only [List.getElem?_toArray, List.getElem?_cons_succ, List.getElem?_cons_zero]; exact rfl) ⟨by kernel_rfl, by kernel_rfl, by kernel_rfl, by exact fun _ _ _ h => h, Or.inl ⟨by rfl, by (intro w hSw; (try dsimp only at hSw); go_simp; (try with_reducible rfl))⟩, by assumption, ?_⟩
                try simp only [Act.put, List.setIfInBounds_toArray, List.set_cons_zero, List.set_cons_succ]
                refine wpAnyH_ready (rs := [10]) (by kernel_rfl) (by simp) ?_
                refine AllReadyH.cons (o := _) (by simp only [List.getElem?_toArray, List.getElem?_cons_succ, List.getElem?_cons_zero]; exact rfl) (fun K hK => ?_) AllReadyH.nil
                go_simp
                go_at_call 44; (refine (HL.out _ _ (HR.out.below hB2)).mono ?_; rintro e w1 ⟨rfl, hb1⟩; replace hB2 := bvia hB2 hb1; replace k0 := cell_on hb1 k0; replace k1 := cell_on hb1 k1; clear hb1)
                go_wp2_with fail
                refine hK.out _ _ (by first | (dsimp only; done) | ((try dsimp only); exact ⟨k0, k1⟩)) (fun hHeld => ?_)
                clear hK K
                try simp only [Act.put, List.setIfInBounds_toArray, List.set_cons_zero, List.set_cons_succ]
                refine takeI (i := 11) (oi := _) (v := _) (by simp only [List.getElem?_toArray, List.getElem?_cons_succ, List.getElem?_cons_zero]; exact rfl) ⟨by kernel_rfl, by kernel_rfl, by kernel_rfl, by exact fun _ _ _ h => h, Or.inl ⟨by rfl, by (intro w hSw; (try dsimp only at hSw); go_simp; (try with_reducible rfl))⟩, by assumption, ?_⟩
                try simp only [Act.put, List.setIfInBounds_toArray, List.set_cons_zero, List.set_cons_succ]
                refine takeI (i := 12) (oi := _) (v := _) (by simp only [List.getElem?_toArray, List.getElem?_cons_succ, List.getElem?_cons_zero]; exact rfl) ⟨by kernel_rfl, by kernel_rfl, by kernel_rfl, by exact fun _ _ _ h => h, Or.inl ⟨by rfl, by (intro w hSw; (try dsimp only at hSw); go_simp; (try with_reducible rfl))⟩, by assumption, ?_⟩
                try simp only [Act.put, List.setIfInBounds_toArray, List.set_cons_zero, List.set_cons_succ]
                refine wpAnyH_done (by kernel_rfl) ?_ _
                go_wp2
                go_ret
                exact ⟨ret_bool (by rw [HO.out false (by simp [HG.out.1 hl])]; simp), bvia hB0 hB2⟩
              · have ql : decide (0 ≤ L) = false := decide_eq_false hl
                have hnl : hasSpot (x0, x1) (zs.take k) = false := by
                  cases hh : hasSpot (x0, x1) (zs.take k) with
                  | false => rfl
                  | true => exact absurd (HG.out.2 hh) hl
                have HN := Lib.hid hnl
                clear hnl
                refine wp_region_held_drew (S := (fun w' => w'.cell? ⟨wr.heap.size, 0, none⟩ = some (.int .i64 x0) ∧ w'.cell? ⟨wr.heap.size, 1, none⟩ = some (.int .i64 x1))) (by kernel_rfl) (by first | (dsimp only; done) | ((try dsimp only); exact ⟨k0, k1⟩)) (fun hHeld => ?_)
                refine takeI (i := 0) (oi := _) (v := _) (by simp only [List.getElem?_toArray, List.getElem?_cons_succ, List.getElem?_cons_zero]; exact rfl) ⟨by kernel_rfl, by kernel_rfl, by kernel_rfl, by exact fun _ _ _ h => h, Or.inl ⟨by rfl, by (intro w hSw; (try dsimp only at hSw); go_simp; (try with_reducible rfl))⟩, by assumption, ?_⟩
                try simp only [Act.put, List.setIfInBounds_toArray, List.set_cons_zero, List.set_cons_succ]
                refine takeI (i := 1) (oi := _) (v := _) (by simp only [List.getElem?_toArray, List.getElem?_cons_succ, List.getElem?_cons_zero]; exact rfl) ⟨by kernel_rfl, by kernel_rfl, by kernel_rfl, by exact fun _ _ _ h => h, Or.inl ⟨by rfl, by (intro w hSw; (try dsimp only at hSw); go_simp; (try with_reducible rfl))⟩, by assumption, ?_⟩
                try simp only [Act.put, List.setIfInBounds_toArray, List.set_cons_zero, List.set_cons_succ]
                refine takeI (i := 2) (oi := _) (v := _) (by simp only [List.getElem?_toArray, List.getElem?_cons_succ, List.getElem?_cons_zero]; exact rfl) ⟨by kernel_rfl, by kernel_rfl, by kernel_rfl, by exact fun _ _ _ h => h, Or.inl ⟨by rfl, by (intro w hSw; (try dsimp only at hSw); go_simp; (try with_reducible rfl))⟩, by assumption, ?_⟩
                try simp only [Act.put, List.setIfInBounds_toArray, List.set_cons_zero, List.set_cons_succ]
                refine wpAnyH_ready (rs := [3]) (by kernel_rfl) (by simp) ?_
                refine AllReadyH.cons (o := _) (by simp only [List.getElem?_toArray, List.getElem?_cons_succ, List.getElem?_cons_zero]; exact rfl) (fun K hK => ?_) AllReadyH.nil
                go_simp
                go_at_call 43; (refine (HI.out _).mono ?_; rintro e w1 ⟨rfl, hb1⟩; replace hB2 := bvia hB2 hb1; replace k0 := cell_on hb1 k0; replace k1 := cell_on hb1 k1; clear hb1)
                go_wp2_with fail
                refine hK.out _ _ (by first | (dsimp only; done) | ((try dsimp only); exact ⟨k0, k1⟩)) (fun hHeld => ?_)
                clear hK K
                try simp only [Act.put, List.setIfInBounds_toArray, List.set_cons_zero, List.set_cons_succ]
                refine takeI (i := 4) (oi := _) (v := _) (by simp only [List.getElem?_toArray, List.getElem?_cons_succ, List.getElem?_cons_zero]; exact rfl) ⟨by kernel_rfl, by kernel_rfl, by kernel_rfl, by exact fun _ _ _ h => h, Or.inl ⟨by rfl, by (intro w hSw; (try dsimp only at hSw); go_simp; (try with_reducible rfl))⟩, by assumption, ?_⟩
                try simp only [Act.put, List.setIfInBounds_toArray, List.set_cons_zero, List.set_cons_succ]
                refine takeI (i := 5) (oi := _) (v := _) (by simp only [List.getElem?_toArray, List.getElem?_cons_succ, List.getElem?_cons_zero]; exact rfl) ⟨by kernel_rfl, by kernel_rfl, by kernel_rfl, by exact fun _ _ _ h => h, Or.inl ⟨by rfl, by (intro w hSw; (try dsimp only at hSw); go_simp; (try with_reducible rfl))⟩, by assumption, ?_⟩
                try simp only [Act.put, List.setIfInBounds_toArray, List.set_cons_zero, List.set_cons_succ]
                refine takeI (i := 6) (oi := _) (v := _) (by simp only [List.getElem?_toArray, List.getElem?_cons_succ, List.getElem?_cons_zero]; exact rfl) ⟨by kernel_rfl, by kernel_rfl, by kernel_rfl, by exact fun _ _ _ h => h, Or.inl ⟨by rfl, by (intro w hSw; (try dsimp only at hSw); go_simp; (try with_reducible rfl))⟩, by assumption, ?_⟩
                try simp only [Act.put, List.setIfInBounds_toArray, List.set_cons_zero, List.set_cons_succ]
                refine takeI (i := 7) (oi := _) (v := _) (by simp only [List.getElem?_toArray, List.getElem?_cons_succ, List.getElem?_cons_zero]; exact rfl) ⟨by kernel_rfl, by kernel_rfl, by kernel_rfl, by exact fun _ _ _ h => h, Or.inl ⟨by rfl, by (intro w hSw; (try dsimp only at hSw); go_simp; (try with_reducible rfl))⟩, by assumption, ?_⟩
                try simp only [Act.put, List.setIfInBounds_toArray, List.set_cons_zero, List.set_cons_succ]
                refine takeI (i := 8) (oi := _) (v := _) (by simp only [List.getElem?_toArray, List.getElem?_cons_succ, List.getElem?_cons_zero]; exact rfl) ⟨by kernel_rfl, by kernel_rfl, by kernel_rfl, by exact fun _ _ _ h => h, Or.inl ⟨by rfl, by (intro w hSw; (try dsimp only at hSw); go_simp; (try with_reducible rfl))⟩, by assumption, ?_⟩
                try simp only [Act.put, List.setIfInBounds_toArray, List.set_cons_zero, List.set_cons_succ]
                refine takeI (i := 9) (oi := _) (v := _) (by simp only [List.getElem?_toArray, List.getElem?_cons_succ, List.getElem?_cons_zero]; exact rfl) ⟨by kernel_rfl, by kernel_rfl, by kernel_rfl, by exact fun _ _ _ h => h, Or.inl ⟨by rfl, by (intro w hSw; (try dsimp only at hSw); go_simp; (try with_reducible rfl))⟩, by assumption, ?_⟩
                try simp only [Act.put, List.setIfInBounds_toArray, List.set_cons_zero, List.set_cons_succ]
                refine wpAnyH_ready (rs := [10]) (by kernel_rfl) (by simp) ?_
                refine AllReadyH.cons (o := _) (by simp only [List.getElem?_toArray, List.getElem?_cons_succ, List.getElem?_cons_zero]; exact rfl) (fun K hK => ?_) AllReadyH.nil
                go_simp
                go_at_call 44; (refine (HL.out _ _ (HR.out.below hB2)).mono ?_; rintro e w1 ⟨rfl, hb1⟩; replace hB2 := bvia hB2 hb1; replace k0 := cell_on hb1 k0; replace k1 := cell_on hb1 k1; clear hb1)
                go_wp2_with fail
                refine hK.out _ _ (by first | (dsimp only; done) | ((try dsimp only); exact ⟨k0, k1⟩)) (fun hHeld => ?_)
                clear hK K
                try simp only [Act.put, List.setIfInBounds_toArray, List.set_cons_zero, List.set_cons_succ]
                refine takeI (i := 11) (oi := _) (v := _) (by simp only [List.getElem?_toArray, List.getElem?_cons_succ, List.getElem?_cons_zero]; exact rfl) ⟨by kernel_rfl, by kernel_rfl, by kernel_rfl, by exact fun _ _ _ h => h, Or.inl ⟨by rfl, by (intro w hSw; (try dsimp only at hSw); go_simp; (try with_reducible rfl))⟩, by assumption, ?_⟩
                try simp only [Act.put, List.setIfInBounds_toArray, List.set_cons_zero, List.set_cons_succ]
                refine takeI (i := 12) (oi := _) (v := _) (by simp only [List.getElem?_toArray, List.getElem?_cons_succ, List.getElem?_cons_zero]; exact rfl) ⟨by kernel_rfl, by kernel_rfl, by kernel_rfl, by exact fun _ _ _ h => h, Or.inl ⟨by rfl, by (intro w hSw; (try dsimp only at hSw); go_simp; (try with_reducible rfl))⟩, by assumption, ?_⟩
                try simp only [Act.put, List.setIfInBounds_toArray, List.set_cons_zero, List.set_cons_succ]
                refine wpAnyH_done (by kernel_rfl) ?_ _
                go_wp2
                exact ⟨⟨k + 1, by omega, by go_num, bvia hB0 hB2, by show _ = _; rw [HO.out true (by simp [h0, HN.out]), Bool.true_and]⟩, by simp [intOf]; omega⟩
          · go_wp2
            go_ret
            obtain rfl : k = zs.length := by omega
            have hal : spotsF wd ht [] zs = true := by rw [← H.out, List.drop_length]; rfl
            exact ⟨ret_bool hal.symm, hB⟩
      · rw [show spotsB wd ht zs = false by simp [spotsB, h7]]
        have h7i : (7 : Int) < (zs.length : Int) := by omega
        go_enter Try.func13, Try.ntmps13
        go_wp2_with (fail)
        refine (cw wd _ _ _ hw _).mono ?_
        rintro e w1 ⟨rfl, rfl⟩
        go_wp2_with (fail)
        refine (cw ht _ _ _ hh _).mono ?_
        rintro e w1 ⟨rfl, rfl⟩
        go_wp2_with (fail)
        go_ret
        exact ⟨rfl, Below.refl _ _⟩
theorem hasSpot_snoc (p : Sp) (A : List Sp) (x : Sp) : hasSpot p (A ++ [x]) = (hasSpot p A || eqS x p) := by simp [hasSpot]
set_option maxHeartbeats 1600000 in
theorem specSpotsOk_any (wd ht : Int) (zs : List Sp) (v : Value) (w : World) (h : RdSpot w v zs) : Calls Try.prog 11 #[.int .i64 wd, .int .i64 ht, v] w fun e w' => e = .returned (.bool (spotsB wd ht zs)) ∧ Dr w w' := by
  have cw : ∀ (x lo hi : Int) (b : Bool), inB x lo hi = b → ∀ u, Calls Try.prog 41 #[.int .i64 x, .int .i64 lo, .int .i64 hi] u fun e w' => e = .returned (.bool b) ∧ u = w' := fun x lo hi b hb u => by have := l01In_any x lo hi u; rwa [hb] at this
  obtain ⟨ad, cap, bl, off, rfl, hcap, hmax, had, hc⟩ := h.open
  have HC := Lib.hid hc
  clear h hc
  cases hw : inB wd 1 12 with
  | false =>
    rw [show spotsB wd ht zs = false by simp [spotsB, hw]]
    go_enter Try.func11, Try.ntmps11
    go_wp2_with (fail)
    refine (cw wd _ _ _ hw _).mono ?_
    rintro e w1 ⟨rfl, rfl⟩
    go_wp2_with (fail)
    go_ret
    exact ⟨rfl, Dr.refl _⟩
  | true =>
    cases hh : inB ht 1 12 with
    | false =>
      rw [show spotsB wd ht zs = false by simp [spotsB, hh]]
      go_enter Try.func11, Try.ntmps11
      go_wp2_with (fail)
      refine (cw wd _ _ _ hw _).mono ?_
      rintro e w1 ⟨rfl, rfl⟩
      go_wp2_with (fail)
      refine (cw ht _ _ _ hh _).mono ?_
      rintro e w1 ⟨rfl, rfl⟩
      go_wp2_with (fail)
      go_ret
      exact ⟨rfl, Dr.refl _⟩
    | true =>
      by_cases h7 : zs.length ≤ 7
      · rw [show spotsB wd ht zs = spotsF wd ht [] zs by simp [spotsB, hw, hh, h7]]
        have hwb := inB_true.1 hw
        have hhb := inB_true.1 hh
        go_enter Try.func11, Try.ntmps11
        go_wp2_with (fail)
        refine (cw wd _ _ _ hw _).mono ?_
        rintro e w1 ⟨rfl, rfl⟩
        go_wp2_with (fail)
        refine (cw ht _ _ _ hh _).mono ?_
        rintro e w1 ⟨rfl, rfl⟩
        have h7i : ¬ (7 : Int) < (zs.length : Int) := by omega
        go_wp2_with (fail)
        go_loopw [7] (fun i wr => ∃ k : Nat, k ≤ zs.length ∧ i = .int .i64 k ∧ Dr w wr ∧ Hid (spotsF wd ht (zs.take k) (zs.drop k) = spotsF wd ht [] zs)) (fun i _ => zs.length - (intOf i).toNat)
        case atStart => exact ⟨0, Nat.zero_le _, rfl, Dr.refl _, rfl⟩
        case round =>
         as_aux_lemma =>
          obtain ⟨k, hk, rfl, hD, H⟩ := hrel
          by_cases hlt : k < zs.length
          · obtain rfl := had (by omega)
            obtain ⟨⟨x0, x1⟩, hx⟩ : ∃ x, zs[k]? = some x := ⟨_, List.getElem?_eq_getElem hlt⟩
            have hsrc : wr.cell? ⟨bl, off + k * 2, none⟩ = some (.int .i64 x0) ∧ wr.cell? ⟨bl, off + k * 2 + 1, none⟩ = some (.int .i64 x1) := by
              have h1 := HC.out k hlt
              rw [List.getD_eq_getElem?_getD, hx] at h1
              exact ⟨hD.cell h1.1, hD.cell h1.2⟩
            obtain ⟨hck0, hck1⟩ := hsrc
            have HX := Lib.hid (And.intro (drop_get? hx) (take_get? hx))
            clear hx
            have hout : ∀ b : Bool, (spotB wd ht (x0, x1) && !hasSpot (x0, x1) (zs.take k)) = b → spotsF wd ht [] zs = (b && spotsF wd ht (zs.take (k + 1)) (zs.drop (k + 1))) := fun b hb => by
              rw [← H.out, HX.out.1, spotsF_cons, HX.out.2]
              exact congrArg (· && _) hb
            have HO := Lib.hid hout
            clear hout
            cases h0 : inB x0 0 (wd - 1) with
            | false =>
              go_wp2_with (fail)
              refine (cw x0 _ _ _ h0 _).mono ?_
              rintro e w1 ⟨rfl, rfl⟩
              go_wp2_with (fail)
              go_ret
              exact ⟨ret_bool (by rw [HO.out false (by simp [spotB, h0])]; simp), hD⟩
            | true =>
              cases h1 : inB x1 0 (ht - 1) with
              | false =>
                go_wp2_with (fail)
                refine (cw x0 _ _ _ h0 _).mono ?_
                rintro e w1 ⟨rfl, rfl⟩
                go_wp2_with (fail)
                refine (cw x1 _ _ _ h1 _).mono ?_
                rintro e w1 ⟨rfl, rfl⟩
                go_wp2_with (fail)
                go_ret
                exact ⟨ret_bool (by rw [HO.out false (by simp [spotB, h1])]; simp), hD⟩
              | true =>
                obtain ⟨wo, rfl⟩ : ∃ wo : World, wo = wr := ⟨_, rfl⟩
                go_wp2_with (fail)
                refine (cw x0 _ _ _ h0 _).mono ?_
                rintro e w1 ⟨rfl, rfl⟩
                go_wp2_with (fail)
                refine (cw x1 _ _ _ h1 _).mono ?_
                rintro e w1 ⟨rfl, rfl⟩
                go_wp2_with (fail)
                go_loopw [8] (fun i wr => ∃ j : Nat, j ≤ k ∧ i = .int .i64 j ∧ Dr w wr ∧ Dr wo wr ∧ Hid (hasSpot (x0, x1) (zs.take j) = false)) (fun i _ => k - (intOf i).toNat)
                case atStart => exact ⟨0, Nat.zero_le _, rfl, hD, Dr.refl _, rfl⟩
                case round =>
                  obtain ⟨j, hj, rfl, hD2, hD3, HJ⟩ := hrel
                  replace hck0 := hD3.cell hck0
                  replace hck1 := hD3.cell hck1
                  by_cases hjk : j < k
                  · have r1 : (j : Int) < (zs.length : Int) := by omega
                    have r2 : (k : Int) < (zs.length : Int) := by omega
                    have r3 : j < zs.length := by omega
                    obtain ⟨⟨y0, y1⟩, hy⟩ : ∃ y, zs[j]? = some y := ⟨_, List.getElem?_eq_getElem (by omega)⟩
                    have hsrcY : wr.cell? ⟨bl, off + j * 2, none⟩ = some (.int .i64 y0) ∧ wr.cell? ⟨bl, off + j * 2 + 1, none⟩ = some (.int .i64 y1) := by
                      have h1 := HC.out j (by omega)
                      rw [List.getD_eq_getElem?_getD, hy] at h1
                      exact ⟨hD2.cell h1.1, hD2.cell h1.2⟩
                    obtain ⟨hcy0, hcy1⟩ := hsrcY
                    have HY := Lib.hid (And.intro (drop_get? hy) (take_get? hy))
                    clear hy
                    by_cases e0 : y0 = x0
                    · by_cases e1 : y1 = x1
                      · have hyes : hasSpot (x0, x1) (zs.take k) = true := by
                          refine List.any_eq_true.2 ⟨(y0, y1), ?_, eqS_yes e0 e1⟩
                          have h2 : (y0, y1) ∈ zs.take (j + 1) := by rw [HY.out.2]; simp
                          exact (List.take_subset_take_left zs (by omega : j + 1 ≤ k)) h2
                        have HN := Lib.hid hyes
                        clear hyes
                        subst e0
                        subst e1
                        go_wp2
                        go_quiet (fail)
                        go_wp2
                        go_ret
                        exact ⟨ret_bool (by rw [HO.out false (by simp [HN.out])]; simp), hD2.next _⟩
                      · have HE := Lib.hid (eqS_no1 (x0 := y0) (y0 := x0) e1)
                        have e1b : (y1 == x1) = false := beq_eq_false_iff_ne.2 e1
                        subst e0
                        go_wp2
                        go_quiet (fail)
                        go_wp2
                        exact ⟨⟨j + 1, by omega, by go_num, hD2.next _, hD3.next _, by show _ = _; rw [HY.out.2, hasSpot_snoc, HJ.out]; exact HE.out⟩, by simp [intOf]; omega⟩
                    · have HE := Lib.hid (eqS_no0 (x1 := y1) (y1 := x1) e0)
                      have e0b : (y0 == x0) = false := beq_eq_false_iff_ne.2 e0
                      go_wp2
                      go_quiet (fail)
                      go_wp2
                      exact ⟨⟨j + 1, by omega, by go_num, hD2.next _, hD3.next _, by show _ = _; rw [HY.out.2, hasSpot_snoc, HJ.out]; exact HE.out⟩, by simp [intOf]; omega⟩
                  · obtain rfl : j = k := by omega
                    go_wp2
                    exact ⟨⟨j + 1, by omega, by go_num, hD2, by show _ = _; rw [HO.out true (by simp [spotB, h0, h1, HJ.out]), Bool.true_and]⟩, by simp [intOf]; omega⟩
          · go_wp2
            go_ret
            obtain rfl : k = zs.length := by omega
            have hal : spotsF wd ht [] zs = true := by rw [← H.out, List.drop_length]; rfl
            exact ⟨ret_bool hal.symm, hD⟩
      · rw [show spotsB wd ht zs = false by simp [spotsB, h7]]
        have h7i : (7 : Int) < (zs.length : Int) := by omega
        go_enter Try.func11, Try.ntmps11
        go_wp2_with (fail)
        refine (cw wd _ _ _ hw _).mono ?_
        rintro e w1 ⟨rfl, rfl⟩
        go_wp2_with (fail)
        refine (cw ht _ _ _ hh _).mono ?_
        rintro e w1 ⟨rfl, rfl⟩
        go_wp2_with (fail)
        go_ret
        exact ⟨rfl, Dr.refl _⟩
theorem specSpotsOk_b (wd ht : Int) (zs : List Sp) (v : Value) (w : World) (h : RdSpot w v zs) : Calls Try.prog 11 #[.int .i64 wd, .int .i64 ht, v] w fun e w' => e = .returned (.bool (spotsB wd ht zs)) ∧ Below w.heap.size w w' := (specSpotsOk_any wd ht zs v w h).mono fun _ _ h => ⟨h.1, h.2.below⟩
theorem walkFnExactSpotsOk (wd : Int) (ht : Int) (zs : List (Int × Int)) (vzs : Value) (w : World) (hzs : RdSpot w vzs zs) : Calls Try.prog 3 #[.int .i64 wd, .int .i64 ht, vzs] w fun e w' => e = .returned (.bool true) ∧ Below w.heap.size w w' := by
  have hmxzs : zs.length ≤ 9223372036854775807 := by obtain ⟨_, _, _, _, _, h1, h2, _⟩ := hzs.open; omega
  obtain ⟨azs, capzs, rfl⟩ := hzs.shape
  by_cases hlzs : zs.length ≤ 1048576
  · skip
    have hB := Below.refl w.heap.size w
    go_enter Try.func3, Try.ntmps3
    go_wp2_with (fail)
    refine (szSpotS_ok _ _ _ _ (by omega) (by omega) _).mono ?_
    rintro e w' ⟨rfl, rfl⟩
    go_wp2_with (fail)
    refine (toSpotS_any zs (by omega) _ _ (hzs.below hB)).mono ?_
    rintro e w1 ⟨ut0, rfl, ot0, hb⟩
    have bt0 := hB.size
    replace hB := bvia hB hb
    clear hb
    go_wp2_with (fail)
    refine (specSpotsOk_b wd ht zs  _ _ ot0.rd).mono ?_
    rintro e w2 ⟨rfl, hb⟩
    replace ot0 := ot0.below hb
    replace hB := bvia hB hb
    clear hb
    clear ot0
    go_wp2_with (fail)
    refine (toSpotS_any zs (by omega) _ _ (hzs.below hB)).mono ?_
    rintro e w3 ⟨ux0, rfl, ox0, hb⟩
    have bx0 := hB.size
    replace hB := bvia hB hb
    clear hb
    go_wp2_with (fail)
    refine (implSpotsOk_any wd ht zs  _ _ ox0.rd).mono ?_
    rintro e w4 ⟨rfl, hb⟩
    replace ox0 := ox0.below hb
    replace hB := bvia hB hb
    clear hb
    go_wp2_with (fail)
    refine (toSpotS_any zs (by omega) _ _ (hzs.below hB)).mono ?_
    rintro e w5 ⟨uy0, rfl, oy0, hb⟩
    have dx0_y0 := dis_of ox0.lt oy0.lt (Nat.le_refl _)
    have dy0_x0 := dis_of' ox0.lt oy0.lt (Nat.le_refl _)
    have by0 := hB.size
    replace ox0 := ox0.below hb
    replace hB := bvia hB hb
    clear hb
    go_wp2_with (fail)
    refine (eqSpotS_any zs _ _ _ ox0.rd oy0.rd).mono ?_
    rintro e w6 ⟨rfl, hb⟩
    replace ox0 := ox0.below hb
    replace oy0 := oy0.below hb
    replace hB := bvia hB hb
    clear hb
    clear oy0
    go_wp2_with (fail)
    go_returns
    exact ⟨rfl, hB⟩
  · go_enter Try.func3, Try.ntmps3
    go_wp2_with (fail)
    refine (szSpotS_no _ _ _ (by have := hmxzs; omega) _ (by omega) (by omega) (by omega) _).mono ?_
    rintro e w' ⟨rfl, rfl⟩
    go_wp2_with (fail)
    go_returns
    exact ⟨rfl, Below.refl _ _⟩
end Go.Proofs.Ytcpkbohopicabaa
