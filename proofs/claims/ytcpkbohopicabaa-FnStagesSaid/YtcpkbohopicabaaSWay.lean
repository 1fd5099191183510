/- The walk of spec.WayAround: a queue of squares. -/
import Derived.Test.YtcpkbohopicabaaWayP
import Derived.Test.YtcpkbohopicabaaWalk
import Derived.Test.YtcpkbohopicabaaStill
namespace Go.Proofs.Ytcpkbohopicabaa
open Go.ChangeShapes Go.WideShapes Go.ChangeAt Go.RowKit Go.Joins
set_option linter.unusedSimpArgs false
set_option linter.unusedVariables false

def wayIn (wd ht : Int) (zs : List Sp) (k : Int) (t : Sp) : Bool := spotsB wd ht zs && inB k 0 ((zs.length : Int) - 1) && spotB wd ht t
open Classical in
noncomputable def wayF (wd ht : Int) (zs : List Sp) (k : Int) (t : Sp) : Int :=
  if wayIn wd ht zs k t = true then (if h : ∃ a, IsWay (freeS wd ht zs k.toNat) (zs.getD k.toNat (0, 0)) t a then Classical.choose h else -1) else -1
theorem wayF_eq {wd ht : Int} {zs : List Sp} {k a : Int} {t : Sp} (h : wayIn wd ht zs k t = true) (ha : IsWay (freeS wd ht zs k.toNat) (zs.getD k.toNat (0, 0)) t a) : wayF wd ht zs k t = a := by
  have he : ∃ a, IsWay (freeS wd ht zs k.toNat) (zs.getD k.toNat (0, 0)) t a := ⟨a, ha⟩
  unfold wayF
  rw [if_pos h, dif_pos he]
  exact (Classical.choose_spec he).one ha
theorem wayF_no {wd ht : Int} {zs : List Sp} {k : Int} {t : Sp} (h : wayIn wd ht zs k t = false) : wayF wd ht zs k t = -1 := by
  unfold wayF
  rw [if_neg (by simp [h])]
def ix (wd : Int) (q : Sp) : Int := q.2 * wd + q.1
theorem OwI.fullM {α : Type} {f : α → Int} {L : List α} {w : World} {B : Nat} {u : Value} (h : OwI w B u (L.map f)) (hp : 0 < L.length) :
    ∃ g cap, u = .slice (some ⟨g, 0, none⟩) L.length cap ∧ B ≤ g ∧ g < w.heap.size ∧ L.length ≤ cap ∧ cap ≤ 9223372036854775807 := by
  rcases h.slice with ⟨_, h⟩ | ⟨g, cap, rfl, h1, h2, h3, h4⟩
  · have : (L.map f).length = 0 := by rw [h]; rfl
    rw [List.length_map] at this
    omega
  · rw [List.length_map] at h3 ⊢
    exact ⟨g, cap, rfl, h1, h2, h3, h4⟩

set_option maxRecDepth 40000 in
set_option maxHeartbeats 1000000 in
theorem specWay_any (wd ht : Int) (zs : List Sp) (k t0 t1 : Int) (v : Value) (w : World) (h : RdSpot w v zs) :
    Calls Try.prog 31 #[.int .i64 wd, .int .i64 ht, v, .int .i64 k, .agg #[.int .i64 t0, .int .i64 t1]] w fun e w' => e = .returned (.int .i64 (wayF wd ht zs k (t0, t1))) ∧ Below w.heap.size w w' := by
  have cw : ∀ (x lo hi : Int) (b : Bool), inB x lo hi = b → ∀ u, Calls Try.prog 41 #[.int .i64 x, .int .i64 lo, .int .i64 hi] u fun e w' => e = .returned (.bool b) ∧ u = w' := fun x lo hi b hb u => by have := l01In_any x lo hi u; rwa [hb] at this
  have hb := below_alloc1 w (.cells #[.int .i64 t0, .int .i64 t1] 50)
  have n0 : (w.alloc (.cells #[.int .i64 t0, .int .i64 t1] 50)).cell? ⟨w.heap.size, 0, none⟩ = some (.int .i64 t0) := by simp [go_sem]
  have n1 : (w.alloc (.cells #[.int .i64 t0, .int .i64 t1] 50)).cell? ⟨w.heap.size, 1, none⟩ = some (.int .i64 t1) := by simp [go_sem]
  have hr := h.below hb
  have hgs : w.heap.size < (w.alloc (.cells #[.int .i64 t0, .int .i64 t1] 50)).heap.size := by simp
  obtain ⟨az, capz, rfl⟩ := h.shape
  have HS := Lib.hid (And.intro hb (And.intro hr (And.intro n0 (And.intro n1 hgs))))
  clear n0 n1 hr hb h hgs
  go_enter Try.func31, Try.ntmps31
  go_wp2_with (fail)
  generalize w.alloc (.cells #[.int .i64 t0, .int .i64 t1] 50) = w1 at HS ⊢
  obtain ⟨hb, hr, n0, n1, hgs⟩ := HS.out
  clear HS
  refine (specSpotsOk_any wd ht zs _ _ hr).mono ?_
  rintro e w2 ⟨rfl, hd⟩
  have hb2 := hd.below
  clear hd
  replace n0 := cell_on hb2 n0
  replace n1 := cell_on hb2 n1
  replace hr := hr.below hb2
  replace hgs := Nat.lt_of_lt_of_le hgs hb2.size
  replace hb := bvia hb hb2
  clear hb2
  cases h1 : spotsB wd ht zs with
  | false =>
    have HK := Lib.hid (wayF_no (wd := wd) (ht := ht) (zs := zs) (k := k) (t := (t0, t1)) (by simp [wayIn, spotB, h1]))
    go_wp2_with (fail)
    go_ret
    exact ⟨ret_int HK.out.symm, hb⟩
  | true =>
    obtain ⟨hwb, hhb, hl7, hF⟩ := spotsB_bd h1
    cases h2 : inB k 0 ((zs.length : Int) - 1) with
    | false =>
      have HK := Lib.hid (wayF_no (wd := wd) (ht := ht) (zs := zs) (k := k) (t := (t0, t1)) (by simp [wayIn, spotB, h2]))
      go_wp2_with (fail)
      refine (cw k _ _ _ h2 _).mono ?_
      rintro e w9 ⟨rfl, rfl⟩
      go_wp2_with (fail)
      go_ret
      exact ⟨ret_int HK.out.symm, hb⟩
    | true =>
      cases h3 : inB t0 0 (wd - 1) with
      | false =>
        have HK := Lib.hid (wayF_no (wd := wd) (ht := ht) (zs := zs) (k := k) (t := (t0, t1)) (by simp [wayIn, spotB, h3]))
        go_wp2_with (fail)
        refine (cw k _ _ _ h2 _).mono ?_
        rintro e w9 ⟨rfl, rfl⟩
        go_wp2_with (fail)
        refine (cw t0 _ _ _ h3 _).mono ?_
        rintro e w9 ⟨rfl, rfl⟩
        go_wp2_with (fail)
        go_ret
        exact ⟨ret_int HK.out.symm, hb⟩
      | true =>
        cases h4 : inB t1 0 (ht - 1) with
        | false =>
          have HK := Lib.hid (wayF_no (wd := wd) (ht := ht) (zs := zs) (k := k) (t := (t0, t1)) (by simp [wayIn, spotB, h4]))
          go_wp2_with (fail)
          refine (cw k _ _ _ h2 _).mono ?_
          rintro e w9 ⟨rfl, rfl⟩
          go_wp2_with (fail)
          refine (cw t0 _ _ _ h3 _).mono ?_
          rintro e w9 ⟨rfl, rfl⟩
          go_wp2_with (fail)
          refine (cw t1 _ _ _ h4 _).mono ?_
          rintro e w9 ⟨rfl, rfl⟩
          go_wp2_with (fail)
          go_ret
          exact ⟨ret_int HK.out.symm, hb⟩
        | true =>
          have hwi : wayIn wd ht zs k (t0, t1) = true := by simp [wayIn, spotB, h1, h2, h3, h4]
          have htg : spotB wd ht (t0, t1) = true := by simp [spotB, h3, h4]
          have HZ := Lib.hid (spotsF_mem zs [] hF)
          clear hF
          have hkb := inB_true.1 h2
          obtain ⟨kn, rfl⟩ : ∃ n : Nat, k = n := ⟨k.toNat, by omega⟩
          have hkn : kn < zs.length := by omega
          have HW := Lib.hid (fun a => wayF_eq (a := a) hwi)
          rw [Int.toNat_natCast] at HW
          clear hwi
          obtain ⟨n, hnn⟩ : ∃ n : Nat, (n : Int) = wd * ht := ⟨(wd * ht).toNat, by have := (grid_max hwb hhb).1; omega⟩
          have hn144 : 1 ≤ n ∧ n ≤ 144 := by have := (grid_max hwb hhb).1; omega
          have hnt : n = (wd * ht).toNat := by omega
          have hmul : IntKind.i64.wrap (wd * ht) = (n : Int) := by rw [hnn]; exact IntWalk.i64_in _ (by omega)
          have HNN := Lib.hid hnn
          have HNT := Lib.hid hnt
          clear hnn hnt
          have hmk := run_make_row' (P := Try.prog) 32 3 (.int .i64 0) 8 underInts infoInt rfl .i64 .i64 n (by omega) (by omega)
          have HO := Lib.hid (OwI.made w2 n (by omega))
          obtain ⟨az2, capz2, blz, offz, hvz, _, hmz, hadz, hcz⟩ := hr.open
          simp only [Value.slice.injEq] at hvz
          obtain ⟨rfl, _, rfl⟩ := hvz
          have hazz := hadz (by omega)
          subst hazz
          have HC := Lib.hid hcz
          have HR := Lib.hid hr
          clear hcz hadz hr
          go_wp2_with (fail)
          refine (cw (kn : Int) _ _ _ h2 _).mono ?_
          rintro e w9 ⟨rfl, rfl⟩
          go_wp2_with (fail)
          refine (cw t0 _ _ _ h3 _).mono ?_
          rintro e w9 ⟨rfl, rfl⟩
          go_wp2_with (fail)
          refine (cw t1 _ _ _ h4 _).mono ?_
          rintro e w9 ⟨rfl, rfl⟩
          go_wp2_with (fail)
          clear hmk
          have hbm := below_alloc1 w2 (.cells (madeCells #[.int .i64 0] n) 3)
          go_loopw [12] (fun i wr => ∃ j : Nat, j ≤ n ∧ i = .int .i64 j ∧ Hid (∃ st : List Int, OwI wr w2.heap.size (.slice (some ⟨w2.heap.size, 0, none⟩) n n) st ∧ st.length = n ∧ ∀ q, q < j → st.getD q 0 = -1) ∧ Below w2.heap.size w2 wr) (fun i _ => n - (intOf i).toNat)
          case atStart => exact ⟨0, Nat.zero_le _, rfl, ⟨_, HO.out, by simp, fun q hq => absurd hq (by omega)⟩, hbm⟩
          case round =>
           focus
            clear HO hbm
            obtain ⟨j, hj, rfl, HI, hB⟩ := hrel
            by_cases hlt : j < n
            · obtain ⟨st, ho, hl, hv⟩ := HI.out
              obtain ⟨hc, hf⟩ := ho.cell (k := j) (by omega)
              have ho2 := ho.set j (-1)
              have hB2 : Below w2.heap.size w2 (wr.setCell ⟨w2.heap.size, j, none⟩ (.int .i64 (-1))) := hB.setCell (Nat.le_refl _) _
              have HS : Hid (∃ st' : List Int, OwI (wr.setCell ⟨w2.heap.size, j, none⟩ (.int .i64 (-1))) w2.heap.size (.slice (some ⟨w2.heap.size, 0, none⟩) n n) st' ∧ st'.length = n ∧ ∀ q, q < j + 1 → st'.getD q 0 = -1) := by
                refine ⟨st.set j (-1), ho2.1, by simpa using hl, fun q hq => ?_⟩
                rw [List.getD_eq_getElem?_getD, List.getElem?_set]
                by_cases he : j = q
                · subst he
                  rw [if_pos rfl, if_pos (by omega)]
                  rfl
                · rw [if_neg he, ← List.getD_eq_getElem?_getD]
                  exact hv q (by omega)
              clear ho ho2 hv HI
              go_wp2_with (fail)
              exact ⟨⟨j + 1, by omega, by go_num, HS.out, hB2⟩, by simp [intOf]; omega⟩
            · obtain ⟨st, ho, hl, hv⟩ := HI.out
              have HI2 : Hid (∃ st, OwI wr w2.heap.size (.slice (some ⟨w2.heap.size, 0, none⟩) n n) st ∧ Laid wd ht zs kn 0 st) := ⟨st, ho, Laid.start (by rw [hl, HNT.out]) fun q hq => hv q (by omega)⟩
              clear ho hl hv HI
              go_wp2_with (fail)
              go_loopw [13] (fun i wr => ∃ j : Nat, j ≤ zs.length ∧ i = .int .i64 j ∧ Hid (∃ st, OwI wr w2.heap.size (.slice (some ⟨w2.heap.size, 0, none⟩) n n) st ∧ Laid wd ht zs kn j st) ∧ Below w2.heap.size w2 wr) (fun i _ => zs.length - (intOf i).toNat)
              case atStart => exact ⟨0, Nat.zero_le _, rfl, HI2.out, hB⟩
              case round =>
               focus
                clear HI2 hB
                obtain ⟨j, hj, rfl, HI, hB⟩ := hrel
                by_cases hlt : j < zs.length
                · by_cases hjk : j = kn
                  · subst hjk
                    have HI2 : Hid (∃ st, OwI wr w2.heap.size (.slice (some ⟨w2.heap.size, 0, none⟩) n n) st ∧ Laid wd ht zs j (j + 1) st) := by
                      obtain ⟨st, ho, hL⟩ := HI.out
                      exact ⟨st, ho, hL.self⟩
                    go_wp2_with (fail)
                    exact ⟨⟨j + 1, by omega, by go_num, HI2.out, hB⟩, by simp [intOf]; omega⟩
                  · obtain ⟨⟨x0, x1⟩, hx⟩ : ∃ x, zs[j]? = some x := ⟨_, List.getElem?_eq_getElem hlt⟩
                    have hgd : zs.getD j (0, 0) = (x0, x1) := by rw [List.getD_eq_getElem?_getD, hx]; rfl
                    have hg := HZ.out _ (List.mem_of_getElem? hx)
                    have hsrc := HC.out j hlt
                    rw [hgd] at hsrc
                    dsimp only at hsrc
                    obtain ⟨s0, s1⟩ := hsrc
                    replace s0 := cell_on hB s0
                    replace s1 := cell_on hB s1
                    obtain ⟨st, ho, hL⟩ := HI.out
                    have hL2 := hL.put hjk hx hg
                    have hql := idn_lt hg
                    have hqc := idn_cast hg
                    obtain ⟨⟨a0, a1⟩, a2, a3⟩ := spotB_iff.1 hg
                    generalize idn wd (x0, x1) = q at hL2 hql hqc
                    dsimp only at hqc a0 a1 a2 a3
                    rw [← HNT.out] at hql
                    obtain ⟨hc, hf⟩ := ho.cell (k := q) (by rw [hL.1, ← HNT.out]; exact hql)
                    have ho2 := ho.set q (-2)
                    have hB2 : Below w2.heap.size w2 (wr.setCell ⟨w2.heap.size, q, none⟩ (.int .i64 (-2))) := hB.setCell (Nat.le_refl _) _
                    have HS : Hid (∃ st', OwI (wr.setCell ⟨w2.heap.size, q, none⟩ (.int .i64 (-2))) w2.heap.size (.slice (some ⟨w2.heap.size, 0, none⟩) n n) st' ∧ Laid wd ht zs kn (j + 1) st') := ⟨_, ho2.1, hL2⟩
                    obtain ⟨p, hp⟩ : ∃ p, x1 * wd = p := ⟨_, rfl⟩
                    have hw1 : IntKind.i64.wrap (x1 * wd) = p := by rw [hp]; exact IntWalk.i64_in _ (by omega)
                    rw [hp] at hqc
                    have hw2 : IntKind.i64.wrap (p + x0) = (q : Int) := by rw [hqc]; exact IntWalk.i64_in _ (by omega)
                    have hjk' : ¬ (j : Int) = (kn : Int) := by omega
                    generalize st.getD q 0 = old at hc
                    clear ho ho2 hL hL2 HI hx hgd hg hp hqc hB
                    go_wp2_with (fail)
                    refine wp_region_still_tail 15 (by kernel_rfl) (by kernel_rfl) ?_
                    simp only [List.take_succ_cons, List.take_zero, List.drop_succ_cons, List.drop_zero]
                    with_reducible refine still_at ?_ (fun K hK => ?_)
                    · kernel_rfl
                    go_simp
                    with_reducible refine hK _ ?_
                    clear hK K
                    with_reducible refine still_at ?_ (fun K hK => ?_)
                    · kernel_rfl
                    go_simp
                    with_reducible refine hK _ ?_
                    clear hK K
                    with_reducible refine still_at ?_ (fun K hK => ?_)
                    · kernel_rfl
                    go_simp
                    with_reducible refine hK _ ?_
                    clear hK K
                    with_reducible refine still_at ?_ (fun K hK => ?_)
                    · kernel_rfl
                    go_simp
                    with_reducible refine hK _ ?_
                    clear hK K
                    with_reducible refine still_at ?_ (fun K hK => ?_)
                    · kernel_rfl
                    go_simp
                    with_reducible refine hK _ ?_
                    clear hK K
                    with_reducible refine still_at ?_ (fun K hK => ?_)
                    · kernel_rfl
                    go_simp
                    with_reducible refine hK _ ?_
                    clear hK K
                    with_reducible refine still_at ?_ (fun K hK => ?_)
                    · kernel_rfl
                    go_simp
                    with_reducible refine hK _ ?_
                    clear hK K
                    with_reducible refine still_at ?_ (fun K hK => ?_)
                    · kernel_rfl
                    go_simp
                    with_reducible refine hK _ ?_
                    clear hK K
                    with_reducible refine still_at ?_ (fun K hK => ?_)
                    · kernel_rfl
                    go_simp
                    with_reducible refine hK _ ?_
                    clear hK K
                    with_reducible refine still_at ?_ (fun K hK => ?_)
                    · kernel_rfl
                    go_simp
                    with_reducible refine hK _ ?_
                    clear hK K
                    with_reducible refine still_at ?_ (fun K hK => ?_)
                    · kernel_rfl
                    go_simp
                    with_reducible refine hK _ ?_
                    clear hK K
                    with_reducible refine still_at ?_ (fun K hK => ?_)
                    · kernel_rfl
                    go_simp
                    with_reducible refine hK _ ?_
                    clear hK K
                    with_reducible refine still_at ?_ (fun K hK => ?_)
                    · kernel_rfl
                    go_simp
                    with_reducible refine hK _ ?_
                    clear hK K
                    with_reducible refine still_at ?_ (fun K hK => ?_)
                    · kernel_rfl
                    go_simp
                    with_reducible refine hK _ ?_
                    clear hK K
                    with_reducible refine still_at ?_ (fun K hK => ?_)
                    · kernel_rfl
                    go_simp
                    with_reducible refine hK _ ?_
                    clear hK K
                    refine wpStill_nil ?_
                    go_wp2_with (fail)
                    exact ⟨⟨j + 1, by omega, by go_num, HS.out, hB2.drew⟩, by simp [intOf]; omega⟩
                · obtain rfl : j = zs.length := by omega
                  clear hlt hj
                  obtain ⟨⟨s0, s1⟩, hs⟩ : ∃ x, zs[kn]? = some x := ⟨_, List.getElem?_eq_getElem hkn⟩
                  have hgd : zs.getD kn (0, 0) = (s0, s1) := by rw [List.getD_eq_getElem?_getD, hs]; rfl
                  have hg := HZ.out _ (List.mem_of_getElem? hs)
                  have hsrc := HC.out kn hkn
                  rw [hgd] at hsrc HW
                  dsimp only at hsrc
                  obtain ⟨c0, c1⟩ := hsrc
                  replace c0 := cell_on hB c0
                  replace c1 := cell_on hB c1
                  obtain ⟨st, ho, hL⟩ := HI.out
                  have hQ := hL.que hg
                  have hql := idn_lt hg
                  have hqc := idn_cast hg
                  obtain ⟨⟨a0, a1⟩, a2, a3⟩ := spotB_iff.1 hg
                  have hixs : [(s0, s1)].map (ix wd) = [((idn wd (s0, s1) : Nat) : Int)] := by rw [List.map_cons, List.map_nil, hqc]; rfl
                  generalize idn wd (s0, s1) = q at hQ hql hqc hixs
                  dsimp only at hqc a0 a1 a2 a3
                  rw [← HNT.out] at hql
                  obtain ⟨hc, hf⟩ := ho.cell (k := q) (by rw [hL.1, ← HNT.out]; exact hql)
                  have ho2 := (ho.set q 0).1
                  have hB2 : Below w2.heap.size w2 (wr.setCell ⟨w2.heap.size, q, none⟩ (.int .i64 0)) := hB.setCell (Nat.le_refl _) _
                  have hsz := hB.size
                  have hsw : w2.heap.size < wr.heap.size := (ho.lt w2.heap.size rfl).2
                  have hLo : OwI ((wr.setCell ⟨w2.heap.size, q, none⟩ (.int .i64 0)).alloc (.cells #[.int .i64 (q : Int)] 3)) (w2.heap.size + 1) (.slice (some ⟨wr.heap.size, 0, none⟩) 1 1) ([(s0, s1)].map (ix wd)) := by
                    rw [hixs]
                    have h := World.ownsRow_lit (base := w2.heap.size + 1) (e := 3) (size := 1) (wr.setCell ⟨w2.heap.size, q, none⟩ (.int .i64 0)) #[.int .i64 (q : Int)] 1 (by simp; omega) (by rw [maxLen_eq]; omega) rfl
                    simp at h
                    exact h
                  have hX := below_alloc1 (wr.setCell ⟨w2.heap.size, q, none⟩ (.int .i64 0)) (.cells #[.int .i64 (q : Int)] 3)
                  have HS := Lib.hid (And.intro hLo (And.intro (⟨_, ho2.below hX, hQ⟩ : ∃ st', OwI ((wr.setCell ⟨w2.heap.size, q, none⟩ (.int .i64 0)).alloc (.cells #[.int .i64 (q : Int)] 3)) w2.heap.size (.slice (some ⟨w2.heap.size, 0, none⟩) n n) st' ∧ Que wd ht zs kn (s0, s1) st' [(s0, s1)] 0 0) (bvia hB2 hX)))
                  obtain ⟨p, hp⟩ : ∃ p, s1 * wd = p := ⟨_, rfl⟩
                  have hw1 : IntKind.i64.wrap (s1 * wd) = p := by rw [hp]; exact IntWalk.i64_in _ (by omega)
                  rw [hp] at hqc
                  have hw2 : IntKind.i64.wrap (p + s0) = (q : Int) := by rw [hqc]; exact IntWalk.i64_in _ (by omega)
                  generalize st.getD q 0 = old at hc
                  clear ho ho2 hL HI hs hgd hg hp hqc hB hB2 hLo hX hQ hixs hsz
                  go_wp2_with (fail)
                  refine wp_region_still_tail 13 (by kernel_rfl) (by kernel_rfl) ?_
                  simp only [List.take_succ_cons, List.take_zero, List.drop_succ_cons, List.drop_zero]
                  with_reducible refine still_at ?_ (fun K hK => ?_)
                  · kernel_rfl
                  go_simp
                  with_reducible refine hK _ ?_
                  clear hK K
                  with_reducible refine still_at ?_ (fun K hK => ?_)
                  · kernel_rfl
                  go_simp
                  with_reducible refine hK _ ?_
                  clear hK K
                  with_reducible refine still_at ?_ (fun K hK => ?_)
                  · kernel_rfl
                  go_simp
                  with_reducible refine hK _ ?_
                  clear hK K
                  with_reducible refine still_at ?_ (fun K hK => ?_)
                  · kernel_rfl
                  go_simp
                  with_reducible refine hK _ ?_
                  clear hK K
                  with_reducible refine still_at ?_ (fun K hK => ?_)
                  · kernel_rfl
                  go_simp
                  with_reducible refine hK _ ?_
                  clear hK K
                  with_reducible refine still_at ?_ (fun K hK => ?_)
                  · kernel_rfl
                  go_simp
                  with_reducible refine hK _ ?_
                  clear hK K
                  with_reducible refine still_at ?_ (fun K hK => ?_)
                  · kernel_rfl
                  go_simp
                  with_reducible refine hK _ ?_
                  clear hK K
                  with_reducible refine still_at ?_ (fun K hK => ?_)
                  · kernel_rfl
                  go_simp
                  with_reducible refine hK _ ?_
                  clear hK K
                  with_reducible refine still_at ?_ (fun K hK => ?_)
                  · kernel_rfl
                  go_simp
                  with_reducible refine hK _ ?_
                  clear hK K
                  with_reducible refine still_at ?_ (fun K hK => ?_)
                  · kernel_rfl
                  go_simp
                  with_reducible refine hK _ ?_
                  clear hK K
                  with_reducible refine still_at ?_ (fun K hK => ?_)
                  · kernel_rfl
                  go_simp
                  with_reducible refine hK _ ?_
                  clear hK K
                  with_reducible refine still_at ?_ (fun K hK => ?_)
                  · kernel_rfl
                  go_simp
                  with_reducible refine hK _ ?_
                  clear hK K
                  with_reducible refine still_at ?_ (fun K hK => ?_)
                  · kernel_rfl
                  go_simp
                  with_reducible refine hK _ ?_
                  clear hK K
                  refine wpStill_nil ?_
                  go_wp2_with (fail)
                  go_loopw [14, 15] (fun u i wr => ∃ (c : Nat) (L : List Sp), c ≤ L.length ∧ i = .int .i64 c ∧ OwI wr (w2.heap.size + 1) u (L.map (ix wd)) ∧ Hid (∃ st, OwI wr w2.heap.size (.slice (some ⟨w2.heap.size, 0, none⟩) n n) st ∧ Que wd ht zs kn (s0, s1) st L c 0) ∧ Below w2.heap.size w2 wr) (fun _ i _ => 145 - (intOf i).toNat)
                  case atStart => exact ⟨0, _, Nat.zero_le _, rfl, HS.out.1.drew, HS.out.2.1, HS.out.2.2.drew⟩
                  case round =>
                   focus
                    clear HS c0 c1 hc hf hw1 hw2 hql
                    obtain ⟨c, L, hcl, rfl, hLo, HI, hB⟩ := hrel
                    have hpos : 0 < L.length := by
                      obtain ⟨st, ho, hQ⟩ := HI.out
                      exact List.length_pos_of_mem hQ.start.1
                    obtain ⟨gl, cl, rfl, g1, g2, g3, g4⟩ := hLo.fullM hpos
                    by_cases hlt : c < L.length
                    · obtain ⟨⟨x0, x1⟩, hx⟩ : ∃ x, L[c]? = some x := ⟨_, List.getElem?_eq_getElem hlt⟩
                      have hl144 : L.length ≤ 144 := by
                        obtain ⟨st, ho, hQ⟩ := HI.out
                        exact hQ.len_le hwb hhb
                      have hg : spotB wd ht (x0, x1) = true := by
                        obtain ⟨st, ho, hQ⟩ := HI.out
                        exact hQ.grid _ (List.mem_of_getElem? hx)
                      obtain ⟨⟨a0, a1⟩, a2, a3⟩ := spotB_iff.1 hg
                      dsimp only at a0 a1 a2 a3
                      obtain ⟨hmd, hdv⟩ := idn_mod hg
                      have hqc := idn_cast hg
                      have hql := idn_lt hg
                      rw [← HNT.out] at hql
                      have hcx := (hLo.cell (k := c) (by rw [List.length_map]; exact hlt)).1
                      have hix : (L.map (ix wd)).getD c 0 = x1 * wd + x0 := by
                        rw [List.getD_eq_getElem?_getD, List.getElem?_map, hx]
                        rfl
                      rw [hix] at hcx
                      dsimp only at hmd hdv hqc
                      rw [← hqc] at hmd hdv hcx
                      have HX := Lib.hid (And.intro hx (And.intro hg hqc))
                      generalize idn wd (x0, x1) = q at hmd hdv hqc hcx hql HX
                      have md1 : (q : Int).tmod wd = x0 := by rw [Int.tmod_eq_emod_of_nonneg (by omega)]; exact hmd
                      have dv1 : (q : Int).tdiv wd = x1 := by rw [Int.tdiv_eq_ediv_of_nonneg (by omega)]; exact hdv
                      have hwd0 : ¬ wd = 0 := by omega
                      clear hmd hdv hix hqc hx hg
                      go_wp2_with (fail)
                      go_loopw [14, 18] (fun u m wr => ∃ (d : Nat) (L : List Sp), d ≤ 9 ∧ m = .int .i64 d ∧ c < L.length ∧ OwI wr (w2.heap.size + 1) u (L.map (ix wd)) ∧ Hid (L[c]? = some (x0, x1)) ∧ Hid (∃ st, OwI wr w2.heap.size (.slice (some ⟨w2.heap.size, 0, none⟩) n n) st ∧ Que wd ht zs kn (s0, s1) st L c d) ∧ Below w2.heap.size w2 wr) (fun _ m _ => 9 - (intOf m).toNat)
                      case atStart => exact ⟨0, L, by omega, rfl, hlt, hLo, HX.out.1, HI.out, hB⟩
                      case round =>
                       focus
                        clear hLo HI hB hcx hlt hcl
                        obtain ⟨d, L, hd, rfl, hlt, hLo, HX1, HI, hB⟩ := hrel
                        by_cases hdl : d < 9
                        · have hl144 : L.length ≤ 144 := by
                            obtain ⟨st, ho, hQ⟩ := HI.out
                            exact hQ.len_le hwb hhb
                          obtain ⟨a, ha⟩ : ∃ a, d % 3 = a := ⟨_, rfl⟩
                          obtain ⟨b, hb3⟩ : ∃ b, d / 3 = b := ⟨_, rfl⟩
                          have hab : a ≤ 2 ∧ b ≤ 2 := by omega
                          obtain ⟨ha2, hb2⟩ := hab
                          have hnb : nbS (x0, x1) d = (x0 + a - 1, x1 + b - 1) := by unfold nbS; rw [ha, hb3]
                          have hm3 : (d : Int).tmod 3 = (a : Int) := by rw [Int.tmod_eq_emod_of_nonneg (by omega)]; omega
                          have hd3 : (d : Int).tdiv 3 = (b : Int) := by rw [Int.tdiv_eq_ediv_of_nonneg (by omega)]; omega
                          obtain ⟨u0, hu0⟩ : ∃ u0, x0 + a - 1 = u0 := ⟨_, rfl⟩
                          obtain ⟨v0, hv0⟩ : ∃ v0, x1 + b - 1 = v0 := ⟨_, rfl⟩
                          rw [hu0, hv0] at hnb
                          have HNB := Lib.hid hnb
                          clear ha hb3 hnb
                          obtain ⟨gl, cl, rfl, g1, g2, g3, g4⟩ := hLo.fullM (by omega)
                          go_wp2_with (fail)
                          cases h5 : inB u0 0 (wd - 1) with
                          | false =>
                            have HI2 : Hid (∃ st, OwI wr w2.heap.size (.slice (some ⟨w2.heap.size, 0, none⟩) n n) st ∧ Que wd ht zs kn (s0, s1) st L c (d + 1)) := by
                              obtain ⟨st, ho, hQ⟩ := HI.out
                              exact ⟨st, ho, hQ.skip HX1.out (fun h => by rw [HNB.out] at h; simp [spotB, h5] at h)⟩
                            clear HI
                            refine (cw u0 _ _ _ h5 _).mono ?_
                            rintro e w9 ⟨rfl, rfl⟩
                            go_wp2_with (fail)
                            exact ⟨⟨d + 1, L, by omega, by go_num, hlt, hLo, HX1.out, HI2.out, hB⟩, by simp [intOf]; omega⟩
                          | true =>
                            cases h6 : inB v0 0 (ht - 1) with
                            | false =>
                              have HI2 : Hid (∃ st, OwI wr w2.heap.size (.slice (some ⟨w2.heap.size, 0, none⟩) n n) st ∧ Que wd ht zs kn (s0, s1) st L c (d + 1)) := by
                                obtain ⟨st, ho, hQ⟩ := HI.out
                                exact ⟨st, ho, hQ.skip HX1.out (fun h => by rw [HNB.out] at h; simp [spotB, h6] at h)⟩
                              clear HI
                              refine (cw u0 _ _ _ h5 _).mono ?_
                              rintro e w9 ⟨rfl, rfl⟩
                              go_wp2_with (fail)
                              refine (cw v0 _ _ _ h6 _).mono ?_
                              rintro e w9 ⟨rfl, rfl⟩
                              go_wp2_with (fail)
                              exact ⟨⟨d + 1, L, by omega, by go_num, hlt, hLo, HX1.out, HI2.out, hB⟩, by simp [intOf]; omega⟩
                            | true =>
                              have hgq : spotB wd ht (u0, v0) = true := by simp [spotB, h5, h6]
                              obtain ⟨st, ho, hQ⟩ := HI.out
                              have hql2 := idn_lt hgq
                              have hqc2 := idn_cast hgq
                              have hix2 : ix wd (u0, v0) = ((idn wd (u0, v0) : Nat) : Int) := hqc2.symm
                              obtain ⟨⟨a0', a1'⟩, a2', a3'⟩ := spotB_iff.1 hgq
                              rw [← HNT.out] at hql2
                              obtain ⟨hc2, hf2⟩ := ho.cell (k := idn wd (u0, v0)) (by rw [hQ.len, ← HNT.out]; exact hql2)
                              have hsv : sv wd st (u0, v0) = st.getD (idn wd (u0, v0)) 0 := rfl
                              dsimp only at hqc2 a0' a1' a2' a3'
                              obtain ⟨p, hp⟩ : ∃ p, v0 * wd = p := ⟨_, rfl⟩
                              have hw1 : IntKind.i64.wrap (v0 * wd) = p := by rw [hp]; exact IntWalk.i64_in _ (by omega)
                              rw [hp] at hqc2
                              have hw2 : IntKind.i64.wrap (p + u0) = ((idn wd (u0, v0) : Nat) : Int) := by rw [hqc2]; exact IntWalk.i64_in _ (by omega)
                              by_cases hy : st.getD (idn wd (u0, v0)) 0 = -1
                              · have hcx := (hLo.cell (k := c) (by rw [List.length_map]; exact hlt)).1
                                have hix : (L.map (ix wd)).getD c 0 = x1 * wd + x0 := by
                                  rw [List.getD_eq_getElem?_getD, List.getElem?_map, HX1.out]
                                  rfl
                                obtain ⟨_, hg, hqc⟩ := HX.out
                                rw [hix, ← hqc] at hcx
                                have hqx : idn wd (x0, x1) = q := by
                                  have h := idn_cast hg
                                  dsimp only at h
                                  omega
                                obtain ⟨hcq, _⟩ := ho.cell (k := q) (by rw [hQ.len, ← HNT.out]; exact hql)
                                have hsx : sv wd st (x0, x1) = st.getD q 0 := by unfold sv; rw [hqx]
                                have hz1 := hQ.pos c _ HX1.out
                                have hz0 : 0 ≤ sv wd st (x0, x1) := by
                                  rcases hQ.val _ hg with ⟨_, h⟩ | ⟨h, _⟩
                                  · exact h
                                  · exact absurd (List.mem_of_getElem? HX1.out) h
                                have hP := hQ.push HX1.out hdl (by rw [HNB.out]; exact hgq) (by rw [HNB.out, hsv]; exact hy)
                                rw [HNB.out, hsx] at hP
                                rw [hsx] at hz0 hz1
                                have hmx : (L ++ [(u0, v0)]).map (ix wd) = L.map (ix wd) ++ [((idn wd (u0, v0) : Nat) : Int)] := by rw [List.map_append, List.map_cons, List.map_nil, hix2]
                                generalize idn wd (u0, v0) = q2 at hw2 hql2 hc2 hf2 hy hP hmx
                                generalize st.getD q 0 = z at hcq hz0 hz1 hP
                                rw [hy] at hc2
                                have ho2 := ho.set q2 (z + 1)
                                have hB2 : Below w2.heap.size w2 (wr.setCell ⟨w2.heap.size, q2, none⟩ (.int .i64 (z + 1))) := hB.setCell (Nat.le_refl _) _
                                have hL2 := hLo.kept (u := (.slice (some ⟨w2.heap.size, 0, none⟩) n n)) ho2.2 (dis_addr (show gl ≠ w2.heap.size by omega))
                                have hwz : IntKind.i64.wrap (z + 1) = z + 1 := IntWalk.i64_in _ (by omega)
                                have hxl : (L ++ [(u0, v0)])[c]? = some (x0, x1) := by rw [List.getElem?_append_left hlt]; exact HX1.out
                                have HP : Hid ((L ++ [(u0, v0)])[c]? = some (x0, x1) ∧ (L ++ [(u0, v0)]).map (ix wd) = L.map (ix wd) ++ [(q2 : Int)]) := ⟨hxl, hmx⟩
                                have hsz5 : (wr.setCell ⟨w2.heap.size, q2, none⟩ (.int .i64 (z + 1))).heap.size = wr.heap.size := by simp
                                have hx5 : Value.slice (some ⟨wr.heap.size, 0, none⟩) 1 1 = .slice (some ⟨(wr.setCell ⟨w2.heap.size, q2, none⟩ (.int .i64 (z + 1))).heap.size, 0, none⟩) 1 1 := by rw [hsz5]
                                have hle5 : w2.heap.size + 1 ≤ (wr.setCell ⟨w2.heap.size, q2, none⟩ (.int .i64 (z + 1))).heap.size := by rw [hsz5]; omega
                                have HQ5 := Lib.hid (And.intro ho2.1 (And.intro hP (And.intro hB2 (And.intro hL2 (And.intro hx5 hle5)))))
                                clear hP ho2 hB2 hL2 hsz5 hx5 hle5 hxl hmx hix hqc hqx hsx ho hQ HI hsv hqc2 hix2 hp hg hB hLo
                                refine (cw u0 _ _ _ h5 _).mono ?_
                                rintro e w9 ⟨rfl, rfl⟩
                                go_wp2_with (fail)
                                refine (cw v0 _ _ _ h6 _).mono ?_
                                rintro e w9 ⟨rfl, rfl⟩
                                go_wp2_with (at_builtin; refine wpList_pushI rfl (.tmp 174) (.tmp 180) rfl (wr.setCell ⟨w2.heap.size, q2, none⟩ (.int .i64 (z + 1))) (q2 : Int) (w2.heap.size + 1) _ (L.map (ix wd)) rfl HQ5.out.2.2.2.1 HQ5.out.2.2.2.2.1 (by rw [List.length_map]; omega) HQ5.out.2.2.2.2.2 ?_; intro v6 w6 o6 hgr _)
                                obtain ⟨ho5, hP5, hB5, hL5, _, _⟩ := HQ5.out
                                have ho6 := ho5.kept hgr (dis_addr (show w2.heap.size ≠ gl by omega))
                                have hB6 := hL5.grown_below hB5 (by omega) hgr
                                rw [← HP.out.2] at o6
                                exact ⟨⟨d + 1, _, by omega, by go_num, by rw [List.length_append]; omega, o6, HP.out.1, ⟨_, ho6, hP5⟩, hB6⟩, by simp [intOf]; omega⟩
                              · have HI2 : Hid (∃ st, OwI wr w2.heap.size (.slice (some ⟨w2.heap.size, 0, none⟩) n n) st ∧ Que wd ht zs kn (s0, s1) st L c (d + 1)) := ⟨st, ho, hQ.skip HX1.out (fun h => by rw [HNB.out, hsv]; exact hy)⟩
                                clear hix2 hqc2 hsv hp
                                generalize idn wd (u0, v0) = q2 at hw2 hql2 hc2 hf2 hy
                                generalize st.getD q2 0 = y at hc2 hy
                                clear ho hQ HI
                                refine (cw u0 _ _ _ h5 _).mono ?_
                                rintro e w9 ⟨rfl, rfl⟩
                                go_wp2_with (fail)
                                refine (cw v0 _ _ _ h6 _).mono ?_
                                rintro e w9 ⟨rfl, rfl⟩
                                go_wp2_with (fail)
                                exact ⟨⟨d + 1, L, by omega, by go_num, hlt, hLo, HX1.out, HI2.out, hB⟩, by simp [intOf]; omega⟩
                        · obtain rfl : d = 9 := by omega
                          have HI2 : Hid (∃ st, OwI wr w2.heap.size (.slice (some ⟨w2.heap.size, 0, none⟩) n n) st ∧ Que wd ht zs kn (s0, s1) st L (c + 1) 0) := by
                            obtain ⟨st, ho, hQ⟩ := HI.out
                            exact ⟨st, ho, hQ.step HX1.out⟩
                          have hl144 : L.length ≤ 144 := by
                            obtain ⟨st, ho, hQ⟩ := HI.out
                            exact hQ.len_le hwb hhb
                          clear HI
                          go_wp2_with (fail)
                          exact ⟨⟨c + 1, L, by omega, by go_num, hLo, HI2.out, hB⟩, by simp [intOf]; omega⟩

                    · obtain ⟨st, ho, hQ⟩ := HI.out
                      have hA := HW.out _ (hQ.answer (by omega) htg)
                      have hql := idn_lt htg
                      have hqc := idn_cast htg
                      obtain ⟨⟨a0, a1⟩, a2, a3⟩ := spotB_iff.1 htg
                      rw [← HNT.out] at hql
                      obtain ⟨hc, _⟩ := ho.cell (k := idn wd (t0, t1)) (by rw [hQ.len, ← HNT.out]; exact hql)
                      have hsv : sv wd st (t0, t1) = st.getD (idn wd (t0, t1)) 0 := rfl
                      rw [hsv] at hA
                      generalize idn wd (t0, t1) = q at hql hqc hc hA
                      generalize st.getD q 0 = y at hc hA
                      dsimp only at hqc a0 a1 a2 a3
                      have HA := Lib.hid hA
                      obtain ⟨p, hp⟩ : ∃ p, t1 * wd = p := ⟨_, rfl⟩
                      have hw1 : IntKind.i64.wrap (t1 * wd) = p := by rw [hp]; exact IntWalk.i64_in _ (by omega)
                      rw [hp] at hqc
                      have hw2 : IntKind.i64.wrap (p + t0) = (q : Int) := by rw [hqc]; exact IntWalk.i64_in _ (by omega)
                      have m0 := cell_on hB n0
                      have m1 := cell_on hB n1
                      clear hp hqc ho hQ HI hA hsv hLo
                      go_wp2_with (fail)
                      all_goals (go_ret; exact ⟨ret_int (by rw [HA.out]; omega), bvia hb hB⟩)
end Go.Proofs.Ytcpkbohopicabaa
