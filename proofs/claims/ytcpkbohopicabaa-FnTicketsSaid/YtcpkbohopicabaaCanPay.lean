/- The walk of CanPay: whether a till can make a sum. -/
import Derived.Test.YtcpkbohopicabaaTick
namespace Go.Proofs.Ytcpkbohopicabaa
open Go.ChangeShapes Go.WideShapes Go.ChangeAt Go.RowKit Go.Joins
set_option linter.unusedSimpArgs false
set_option linter.unusedVariables false

/-- The sum s out of pieces (value, how many there are at most). -/
def reachP : List (Int × Int) → Int → Prop
  | [], s => s = 0
  | (v, t) :: r, s => ∃ n : Int, 0 ≤ n ∧ n ≤ t ∧ n * v ≤ s ∧ reachP r (s - n * v)
def tillOf (zs : List Int) (k : Nat) : List (Int × Int) := ((coins.zip zs).take k).reverse
theorem tillOf_succ {zs : List Int} (hl : zs.length = 6) {k : Nat} (hk : k < 6) : tillOf zs (k + 1) = (coins.getD k 0, zs.getD k 0) :: tillOf zs k := by
  have hz : (coins.zip zs).length = 6 := by simp [coins, hl]
  have hg : (coins.zip zs)[k]'(by omega) = (coins.getD k 0, zs.getD k 0) := by
    rw [List.getElem_zip]
    have h1 : k < coins.length := hk
    rw [getD_lt h1, getD_lt (show k < zs.length by omega)]
  rw [tillOf, List.take_succ_eq_append_getElem (by omega), List.reverse_append, hg]
  rfl
def CanOk (N : Nat) (r : List (Int × Int)) (cs : List Bool) : Prop := ∀ j : Nat, j ≤ N → (cs.getD j false = true ↔ reachP r j)
/-- While place s is under way, pieces 0 .. n - 1 tried. -/
def Mid (r : List (Int × Int)) (x t : Int) (s : Nat) (n : Int) (ns : List Bool) : Prop :=
  (∀ j : Nat, j < s → (ns.getD j false = true ↔ reachP ((x, t) :: r) j)) ∧ (∀ j : Nat, s < j → ns.getD j false = false) ∧
    (ns.getD s false = true ↔ ∃ m : Int, 0 ≤ m ∧ m < n ∧ m ≤ t ∧ m * x ≤ s ∧ reachP r (s - m * x))
theorem mid_set {N : Nat} {r : List (Int × Int)} {x t : Int} {s : Nat} {n : Int} {cs ns : List Bool} (hs : s < ns.length) (hn : 0 ≤ n) (hnt : n ≤ t) (hx0 : 0 ≤ n * x) (hx : n * x ≤ s) (hsN : s ≤ N) (hc : CanOk N r cs) (hM : Mid r x t s n ns) {j : Nat} (hj : (j : Int) = s - n * x) :
    Mid r x t s (n + 1) (ns.set s (ns.getD s false || cs.getD j false)) := by
  obtain ⟨h1, h2, h3⟩ := hM
  refine ⟨fun i hi => ?_, fun i hi => ?_, ?_⟩
  · rw [getD_set hs, if_neg (by omega)]; exact h1 i hi
  · rw [getD_set hs, if_neg (by omega)]; exact h2 i hi
  · rw [getD_set hs, if_pos rfl, Bool.or_eq_true, h3]
    have hjj := hc j (by omega)
    rw [hjj, hj]
    constructor
    · rintro (⟨m, a, b, c, d, e⟩ | h)
      · exact ⟨m, a, by omega, c, d, e⟩
      · exact ⟨n, hn, by omega, hnt, hx, h⟩
    · rintro ⟨m, a, b, c, d, e⟩
      by_cases hmn : m = n
      · subst hmn; exact .inr e
      · exact .inl ⟨m, a, by omega, c, d, e⟩
theorem mid_zero {r : List (Int × Int)} {x t : Int} {s : Nat} {ns : List Bool} (h1 : ∀ j : Nat, j < s → (ns.getD j false = true ↔ reachP ((x, t) :: r) j)) (h2 : ∀ j : Nat, s ≤ j → ns.getD j false = false) : Mid r x t s 0 ns :=
  ⟨h1, fun j hj => h2 j (by omega), by rw [h2 s (Nat.le_refl _)]; exact ⟨fun h => (by cases h), fun ⟨m, a, b, _⟩ => (by omega)⟩⟩
theorem mid_end {r : List (Int × Int)} {x t : Int} {s : Nat} {n : Int} {ns : List Bool} (hx : 0 < x) (hM : Mid r x t s n ns) (he : t < n ∨ s < n * x) :
    (∀ j : Nat, j < s + 1 → (ns.getD j false = true ↔ reachP ((x, t) :: r) j)) ∧ (∀ j : Nat, s + 1 ≤ j → ns.getD j false = false) := by
  obtain ⟨h1, h2, h3⟩ := hM
  refine ⟨fun j hj => ?_, fun j hj => h2 j (by omega)⟩
  by_cases hjs : j < s
  · exact h1 j hjs
  · obtain rfl : j = s := by omega
    rw [h3]
    constructor
    · rintro ⟨m, a, b, c, d, e⟩; exact ⟨m, a, c, d, e⟩
    · rintro ⟨m, a, c, d, e⟩
      refine ⟨m, a, ?_, c, d, e⟩
      rcases he with he | he
      · omega
      · exact Int.lt_of_mul_lt_mul_right (show m * x < n * x by omega) (by omega)
theorem canOk_first (N : Nat) : CanOk N [] ((List.replicate (N + 1) false).set 0 true) := by
  intro j hj
  rw [getD_set (by simp), getD_replicate]
  by_cases h : j = 0
  · subst h; simp [reachP]
  · simp [h, reachP]
set_option maxHeartbeats 3200000 in
theorem implCanPay_any (zs : List Int) (N : Nat) (hl : zs.length = 6) (hm : ∀ z ∈ zs, 0 ≤ z ∧ z ≤ 100) (hN : N ≤ 500) (v : Value) (w : World) (h : RdI w v zs) :
    Calls Try.prog 21 #[v, .int .i64 (N : Int)] w fun e w' => ∃ b : Bool, e = .returned (.bool b) ∧ (b = true ↔ reachP (tillOf zs 6) N) ∧ Below w.heap.size w w' := by
  obtain ⟨ad, cap, bl, off, rfl, hcap, hmax, had, hc⟩ := h.open
  have HR := Lib.hid h
  have HC := Lib.hid hc
  clear h hc
  obtain rfl := had (by omega)
  have hall : allB zs 0 100 = true := List.all_eq_true.2 fun z hz => inB_of (hm z hz).1 (hm z hz).2
  have HA : Hid (Calls Try.prog 47 #[.slice (some ⟨bl, off, none⟩) zs.length cap, .int .i64 0, .int .i64 100] w fun e w' => e = .returned (.bool true) ∧ w = w') := by have := allWithin_any zs 0 100 _ w HR.out; rwa [hall] at this
  have h0 : inB (N : Int) 0 500 = true := inB_of (by omega) (by omega)
  have HW : Hid (∀ u, Calls Try.prog 42 #[.int .i64 (N : Int), .int .i64 0, .int .i64 500] u fun e w' => e = .returned (.bool true) ∧ u = w') := fun u => by have := within_any (N : Int) 0 500 u; rwa [h0] at this
  have HM := Lib.hid hm
  clear hm hall h0 had
  rw [hl]
  rw [hl] at HA hcap
  have hmk := run_make_row' (P := Try.prog) 65 4 (.bool false) 1 underBools infoBool rfl .i64 .i64 (N + 1) (by omega) (by omega)
  push_cast at hmk
  have HO : Hid (∀ w1 : World, OwBl (w1.alloc (.cells (madeCells #[.bool false] (N + 1)) 4)) w1.heap.size (.slice (some ⟨w1.heap.size, 0, none⟩) (N + 1) (N + 1)) (List.replicate (N + 1) false)) := fun w1 => OwBl.made w1 (N + 1) (by omega)
  have hB1 := below_alloc1 w (.cells ((madeCells #[.bool false] (N + 1)).setIfInBounds 0 (.bool true)) 4)
  have ho1 : OwBl (w.alloc (.cells ((madeCells #[.bool false] (N + 1)).setIfInBounds 0 (.bool true)) 4)) w.heap.size (.slice (some ⟨w.heap.size, 0, none⟩) (N + 1) (N + 1)) ((List.replicate (N + 1) false).set 0 true) := by
    have h := World.ownsRow_lit (base := w.heap.size) (e := 4) (size := 1) w ((madeCells #[.bool false] (N + 1)).setIfInBounds 0 (.bool true)) (N + 1) (Nat.le_refl _) (by rw [maxLen_eq]; omega) (by rw [Array.size_setIfInBounds, size_madeCells]; omega)
    unfold OwBl
    rw [List.length_set, List.length_replicate]
    have e : bools ((List.replicate (N + 1) false).set 0 true) = ((madeCells #[.bool false] (N + 1)).setIfInBounds 0 (.bool true)).toList := by rw [Array.toList_setIfInBounds, toList_madeCells_one]; simp [bools, List.map_set]
    rw [e]
    exact h
  have HB1 := Lib.hid (And.intro ho1 hB1)
  clear ho1 hB1
  obtain ⟨hd0, hf0⟩ := (HO.out w).cell (k := 0) (by simp)
  rw [getD_replicate] at hd0
  go_enter Try.func21, Try.ntmps21
  go_wp2_with (fail)
  refine HA.out.mono ?_
  rintro e w9 ⟨rfl, rfl⟩
  go_wp2_with (fail)
  refine (HW.out _).mono ?_
  rintro e w9 ⟨rfl, rfl⟩
  go_wp2_with (fail)
  refine (pieces_any _).mono ?_
  rintro e w1 ⟨up, rfl, op, hb⟩
  obtain ⟨gp, capp, rfl, hgp, hgpw, hcp1, hcp2⟩ : ∃ g cap, up = .slice (some ⟨g, 0, none⟩) 6 cap ∧ w.heap.size + 1 ≤ g ∧ g < w1.heap.size ∧ 6 ≤ cap ∧ cap ≤ 9223372036854775807 := by
    rcases op.slice with ⟨rfl, h⟩ | ⟨g, cap, rfl, h1, h2, h3, h4⟩
    · simp [coins] at h
    · exact ⟨g, cap, rfl, by simpa using h1, h2, h3, h4⟩
  have HS : Hid (OwI w1 w.heap.size (.slice (some ⟨gp, 0, none⟩) 6 capp) coins ∧ OwBl w1 w.heap.size (.slice (some ⟨w.heap.size, 0, none⟩) (N + 1) (N + 1)) ((List.replicate (N + 1) false).set 0 true)) := ⟨op.base (by simp), HB1.out.1.below hb⟩
  have hB := bvia HB1.out.2 hb
  have hsz := hB.size
  clear HB1 hb op HA HW HR hd0 hf0
  go_wp2_with (fail)
  go_loopw [5, 31] (fun c i wr => ∃ (k gc : Nat) (cs : List Bool), k ≤ 6 ∧ i = .int .i64 k ∧ c = .slice (some ⟨gc, 0, none⟩) (N + 1) (N + 1) ∧ cs.length = N + 1 ∧ gc ≠ gp ∧ w1.heap.size ≤ wr.heap.size ∧ gc < wr.heap.size ∧ Below w.heap.size w wr ∧ Hid (OwI wr w.heap.size (.slice (some ⟨gp, 0, none⟩) 6 capp) coins ∧ OwBl wr w.heap.size (.slice (some ⟨gc, 0, none⟩) (N + 1) (N + 1)) cs) ∧ Hid (CanOk N (tillOf zs k) cs)) (fun _ i _ => 6 - (intOf i).toNat)
  case atStart => exact ⟨0, w.heap.size, _, by omega, rfl, rfl, by simp, by omega, Nat.le_refl _, by omega, hB, HS.out, canOk_first N⟩
  case round =>
   as_aux_lemma =>
    clear HS hB
    obtain ⟨k, gc, cs, hk, rfl, rfl, hcl, hgc, hws, hgcw, hB, HS, HK⟩ := hrel
    obtain ⟨wo, rfl⟩ : ∃ wo : World, wo = wr := ⟨_, rfl⟩
    by_cases hlt : k < 6
    · obtain ⟨c0, c1, _⟩ := coins_get hlt
      have hck := (HS.out.1.cell (show k < coins.length from hlt)).1
      have htc := cell_on hB (HC.out k (by omega))
      have htm := HM.out _ (show zs.getD k 0 ∈ zs by rw [getD_lt (by omega)]; exact List.getElem_mem (by omega))
      have HT := Lib.hid (tillOf_succ hl hlt)
      generalize coins.getD k 0 = x at c0 c1 hck HT
      obtain ⟨t, htv⟩ : ∃ t, zs.getD k 0 = t := ⟨_, rfl⟩
      rw [htv] at htc htm HT
      obtain ⟨t0, t1⟩ := htm
      have hk6 : (k : Int) < 6 := by omega
      have hbn := below_alloc1 wo (.cells (madeCells #[.bool false] (N + 1)) 4)
      have HS2 : Hid (OwI (wo.alloc (.cells (madeCells #[.bool false] (N + 1)) 4)) w.heap.size (.slice (some ⟨gp, 0, none⟩) 6 capp) coins ∧ OwBl (wo.alloc (.cells (madeCells #[.bool false] (N + 1)) 4)) w.heap.size (.slice (some ⟨gc, 0, none⟩) (N + 1) (N + 1)) cs ∧ OwBl (wo.alloc (.cells (madeCells #[.bool false] (N + 1)) 4)) w.heap.size (.slice (some ⟨wo.heap.size, 0, none⟩) (N + 1) (N + 1)) (List.replicate (N + 1) false)) :=
        ⟨HS.out.1.below hbn, HS.out.2.below hbn, (HO.out wo).base hB.size⟩
      have hB2 := bvia hB hbn
      have hgpc := HS.out.1.lt gp rfl
      clear HS
      go_wp2_with (fail)
      go_loopw [41] (fun i wq => ∃ (s : Nat) (ns : List Bool), s ≤ N + 1 ∧ i = .int .i64 s ∧ ns.length = N + 1 ∧ Below w.heap.size w wq ∧ Hid (wo.heap.size < wq.heap.size ∧ OwI wq w.heap.size (.slice (some ⟨gp, 0, none⟩) 6 capp) coins ∧ OwBl wq w.heap.size (.slice (some ⟨gc, 0, none⟩) (N + 1) (N + 1)) cs ∧ OwBl wq w.heap.size (.slice (some ⟨wo.heap.size, 0, none⟩) (N + 1) (N + 1)) ns) ∧ Hid ((∀ j : Nat, j < s → (ns.getD j false = true ↔ reachP ((x, t) :: tillOf zs k) j)) ∧ ∀ j : Nat, s ≤ j → ns.getD j false = false)) (fun i _ => N + 1 - (intOf i).toNat)
      case atStart => exact ⟨0, _, by omega, rfl, by simp, hB2, ⟨by simp, HS2.out⟩, ⟨by omega, fun j _ => getD_replicate _ _⟩⟩
      case round =>
       as_aux_lemma =>
        clear HS2 hbn hB2 hck
        obtain ⟨s, ns, hs, rfl, hnl, hBq, HQ, HJ⟩ := hrel
        obtain ⟨wp, rfl⟩ : ∃ wp : World, wp = wr := ⟨_, rfl⟩
        by_cases hls : s < N + 1
        · have hsi : (s : Int) < (N : Int) + 1 := by omega
          have HMID := Lib.hid (mid_zero HJ.out.1 HJ.out.2)
          clear HJ
          go_wp2_with (fail)
          go_loopw [10] (fun i wz => ∃ (n : Int) (ns : List Bool), 0 ≤ n ∧ n ≤ t + 1 ∧ i = .int .i64 n ∧ ns.length = N + 1 ∧ Below w.heap.size w wz ∧ Hid (wo.heap.size < wz.heap.size ∧ OwI wz w.heap.size (.slice (some ⟨gp, 0, none⟩) 6 capp) coins ∧ OwBl wz w.heap.size (.slice (some ⟨gc, 0, none⟩) (N + 1) (N + 1)) cs ∧ OwBl wz w.heap.size (.slice (some ⟨wo.heap.size, 0, none⟩) (N + 1) (N + 1)) ns) ∧ Hid (Mid (tillOf zs k) x t s n ns)) (fun i _ => (t + 1 - intOf i).toNat)
          case atStart => exact ⟨0, ns, by omega, by omega, rfl, hnl, hBq, HQ.out, HMID.out⟩
          case round =>
           as_aux_lemma =>
            clear HQ HMID hBq hnl
            obtain ⟨n, ms, n0, n1, rfl, hml, hBz, HZ, HMID⟩ := hrel
            have hx0 : 0 ≤ n * x := Int.mul_nonneg n0 (by omega)
            have hx1 : n * x ≤ 101 * 50 := Int.mul_le_mul (by omega) c1 (by omega) (by omega)
            have hwx : IntKind.i64.wrap (n * x) = n * x := IntWalk.i64_in _ (by omega)
            obtain ⟨j, hj⟩ : ∃ j : Nat, (j : Int) = s - n * x ∨ (s : Int) < n * x := ⟨((s : Int) - n * x).toNat, by omega⟩
            have hqc := HZ.out.2.2.2.cell (show s < ms.length by omega)
            have hjc := fun hjl : j < cs.length => (HZ.out.2.2.1.cell hjl).1
            have htc2 : wr.cell? ⟨bl, off + k, none⟩ = some (.int .i64 t) := by rw [← htv]; exact cell_on hBz (HC.out k (by omega))
            obtain ⟨hqc, hqf⟩ := hqc
            by_cases hnt : n ≤ t
            · by_cases hnx : n * x ≤ (s : Int)
              · have hj1 : (j : Int) = s - n * x := by omega
                have hms := mid_set (N := N) (by omega) n0 hnt hx0 hnx (by omega) HK.out HMID.out hj1
                have hjl : j < cs.length := by omega
                replace hjc := hjc hjl
                have hst := HZ.out.2.2.2.set s (ms.getD s false || cs.getD j false)
                have hgcp := HZ.out.2.1
                have hkp := HZ.out.2.1.kept (u := .slice (some ⟨wo.heap.size, 0, none⟩) (N + 1) (N + 1)) hst.2 (dis_addr (by omega))
                have hkc := HZ.out.2.2.1.kept (u := .slice (some ⟨wo.heap.size, 0, none⟩) (N + 1) (N + 1)) hst.2 (dis_addr (by omega))
                have hlt2 : wo.heap.size < (wr.setCell ⟨wo.heap.size, s, none⟩ (.bool (ms.getD s false || cs.getD j false))).heap.size := Nat.lt_of_lt_of_le HZ.out.1 hst.2.size
                have hB3 := hBz.setCell (p := ⟨wo.heap.size, s, none⟩) hB.size (.bool (ms.getD s false || cs.getD j false))
                have HZ2 : Hid (_ ∧ _ ∧ _ ∧ _) := ⟨hlt2, hkp, hkc, hst.1⟩
                have HM2 := Lib.hid hms
                have hml2 : (ms.set s (ms.getD s false || cs.getD j false)).length = N + 1 := by simpa using hml
                clear hms hst hgcp hkp hkc hlt2 hj HZ HMID
                generalize hms2 : ms.set s (ms.getD s false || cs.getD j false) = ms2 at HZ2 HM2 hml2
                clear hms2
                generalize ms.getD s false = b at hqc HZ2 hB3
                generalize cs.getD j false = c at hjc HZ2 hB3
                have hidx : ((s : Int) - n * x).toNat = j := by omega
                have hwi : IntKind.i64.wrap ((s : Int) - n * x) = (s : Int) - n * x := IntWalk.i64_in _ (by omega)
                have hi0 : 0 ≤ (s : Int) - n * x := by omega
                have hi1 : (s : Int) - n * x < (N : Int) + 1 := by omega
                cases b with
                | true =>
                  rw [Bool.true_or] at HZ2 hB3
                  go_wp2_with (fail)
                  exact ⟨⟨n + 1, ms2, by omega, by omega, by go_num, hml2, hB3, HZ2.out, HM2.out⟩, by simp [intOf]; omega⟩
                | false =>
                  rw [Bool.false_or] at HZ2 hB3
                  go_wp2_with (fail)
                  exact ⟨⟨n + 1, ms2, by omega, by omega, by go_num, hml2, hB3, HZ2.out, HM2.out⟩, by simp [intOf]; omega⟩
              · have HE := Lib.hid (mid_end (by omega) HMID.out (.inr (by omega)))
                clear hqc hjc hqf hj
                go_wp2_with (fail)
                exact ⟨⟨s + 1, ms, by omega, by go_num, hml, hBz, HZ.out, HE.out⟩, by simp [intOf]; omega⟩
            · have HE := Lib.hid (mid_end (by omega) HMID.out (.inl (by omega)))
              clear hqc hjc hqf hj
              go_wp2_with (fail)
              exact ⟨⟨s + 1, ms, by omega, by go_num, hml, hBz, HZ.out, HE.out⟩, by simp [intOf]; omega⟩
        · obtain rfl : s = N + 1 := by omega
          go_wp2_with (fail)
          have HJ2 : Hid (CanOk N (tillOf zs (k + 1)) ns) := by
            show CanOk _ _ _
            rw [HT.out]
            exact fun j hj => HJ.out.1 j (by omega)
          exact ⟨⟨k + 1, wo.heap.size, ns, by omega, by go_num, rfl, hnl, by omega, by have := HQ.out.1; omega, HQ.out.1, hBq, ⟨HQ.out.2.1, HQ.out.2.2.2⟩, HJ2⟩, by simp [intOf]; omega⟩
    · obtain rfl : k = 6 := by omega
      have hcc := (HS.out.2.cell (k := N) (by omega)).1
      have hfin := HK.out N (Nat.le_refl _)
      generalize cs.getD N false = b at hcc hfin
      have HF := Lib.hid hfin
      clear hfin
      go_wp2_with (fail)
      go_ret
      exact ⟨b, rfl, HF.out, hB⟩
end Go.Proofs.Ytcpkbohopicabaa
