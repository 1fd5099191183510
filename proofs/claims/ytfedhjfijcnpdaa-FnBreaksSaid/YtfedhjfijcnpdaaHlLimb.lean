/- The laws' helpers on slices of Limb: toLimbS copies, eqLimbS compares two equal ones, szLimbS counts, markLimbS writes numbers in turn, heldLimbS finds them there. -/
import Derived.Test.YtfedhjfijcnpdaaStLimb
import Derived.Test.YtfedhjfijcnpdaaInts
namespace Go.Proofs.Ytfedhjfijcnpdaa
open Go.ChangeShapes Go.WideShapes Go.ChangeAt Go.RowKit Go.Joins
set_option linter.unusedSimpArgs false
set_option linter.unusedVariables false

theorem toLimb_any (x0 x1 x2 : Int) (w : World) : Calls Try.prog 68 #[.agg #[.int .i64 x0, .int .i64 x1, .int .i64 x2]] w fun e w' => e = .returned (.agg #[.int .i64 x0, .int .i64 x1, .int .i64 x2]) ∧ Below w.heap.size w w' := by
  go_enter Try.func68, Try.ntmps68
  go_wp2
  go_returns
  refine ⟨rfl, ?_⟩
  go_grown
theorem eqLimb_any (x0 x1 x2 : Int) (w : World) : Calls Try.prog 69 #[.agg #[.int .i64 x0, .int .i64 x1, .int .i64 x2], .agg #[.int .i64 x0, .int .i64 x1, .int .i64 x2]] w fun e w' => e = .returned (.bool true) ∧ Below w.heap.size w w' := by
  go_enter Try.func69, Try.ntmps69
  go_wp2
  go_returns
  refine ⟨rfl, ?_⟩
  go_grown
theorem take_put {α : Type} {zs cs : List α} {k : Nat} {x : α} (hk : k < zs.length) (hx : zs[k]? = some x) (hl : cs.length = zs.length) (h : cs.take k = zs.take k) : (cs.set k x).take (k + 1) = zs.take (k + 1) := by
  rw [List.take_succ_eq_append_getElem (by simp; omega), List.take_succ_eq_append_getElem hk, List.take_set_of_le (Nat.le_refl k), h]
  rw [List.getElem?_eq_getElem hk] at hx
  simp at hx
  simp [hx]

theorem toLimbS_any (zs : List (Int × Int × Int)) (hn : zs.length ≤ 1048576) (v : Value) (w : World) (h : RdLimb w v zs) :
    Calls Try.prog 54 #[v] w fun e w' => ∃ u, e = .returned u ∧ OwLimb w' w.heap.size u zs ∧ Below w.heap.size w w' := by
  obtain ⟨ad, cap, bl, off, rfl, hcap, hmax, had, hc⟩ := h.open
  have HC := Lib.hid hc
  clear h hc
  have hmk := run_makeSLimb zs.length hn
  have HO := Lib.hid (OwLimb.made w zs.length hn)
  go_enter Try.func54, Try.ntmps54
  go_wp2
  clear hmk
  go_loopw [4] (fun i wr => ∃ k : Nat, k ≤ zs.length ∧ i = .int .i64 k ∧ Hid (∃ cs, OwLimb wr w.heap.size (.slice (some ⟨w.heap.size, 0, none⟩) zs.length zs.length) cs ∧ cs.length = zs.length ∧ cs.take k = zs.take k) ∧ Below w.heap.size w wr) (fun i _ => zs.length - (intOf i).toNat)
  case atStart =>
    obtain ⟨cs, h1, h2⟩ := HO.out
    exact ⟨0, Nat.zero_le _, rfl, ⟨cs, h2, h1, rfl⟩, below_alloc1 _ _⟩
  case round =>
   as_aux_lemma =>
    obtain ⟨k, hk, rfl, HI, hB⟩ := hrel
    obtain ⟨cs, ho, hl, ht⟩ := HI.out
    by_cases hlt : k < zs.length
    · obtain rfl := had (by omega)
      obtain ⟨⟨x0, x1, x2⟩, hx⟩ : ∃ x, zs[k]? = some x := ⟨_, List.getElem?_eq_getElem hlt⟩
      have hsrc : w.cell? ⟨bl, off + k * 3, none⟩ = some (.int .i64 x0) ∧ w.cell? ⟨bl, off + k * 3 + 1, none⟩ = some (.int .i64 x1) ∧ w.cell? ⟨bl, off + k * 3 + 2, none⟩ = some (.int .i64 x2) := by
        have := HC.out k hlt
        rw [List.getD_eq_getElem?_getD, hx] at this
        simpa using this
      obtain ⟨hck0, hck1, hck2⟩ := hsrc
      replace hck0 := cell_on hB hck0
      replace hck1 := cell_on hB hck1
      replace hck2 := cell_on hB hck2
      have HX := Lib.hid hx
      have HT := Lib.hid ht
      have HLL := Lib.hid hl
      clear hx ht hl HI
      go_wp2_with (fail)
      refine (toLimb_any _ _ _ _).mono ?_
      rintro e w1 ⟨rfl, hb⟩
      replace ho := ho.below hb
      have hB1 := bvia hB hb
      clear hb
      obtain ⟨hd0, hd1, hd2, hfz⟩ := ho.cell (i := k) (by rw [HLL.out]; exact hlt)
      have hf0 := hfz (k * 3)
      have hf1 := hfz (k * 3 + 1)
      have hf2 := hfz (k * 3 + 2)
      have ho2 := (ho.put (i := k) (by rw [HLL.out]; exact hlt) (x0, x1, x2)).1
      have hB2 : Below w.heap.size w (((w1.setCell ⟨w.heap.size, k * 3, none⟩ (.int .i64 x0)).setCell ⟨w.heap.size, k * 3 + 1, none⟩ (.int .i64 x1)).setCell ⟨w.heap.size, k * 3 + 2, none⟩ (.int .i64 x2)) := (((hB1.setCell (Nat.le_refl _) _).setCell (Nat.le_refl _) _).setCell (Nat.le_refl _) _)
      have ht2 := take_put hlt HX.out HLL.out HT.out
      have H2 : Hid (∃ cs', OwLimb (((w1.setCell ⟨w.heap.size, k * 3, none⟩ (.int .i64 x0)).setCell ⟨w.heap.size, k * 3 + 1, none⟩ (.int .i64 x1)).setCell ⟨w.heap.size, k * 3 + 2, none⟩ (.int .i64 x2)) w.heap.size (.slice (some ⟨w.heap.size, 0, none⟩) zs.length zs.length) cs' ∧ cs'.length = zs.length ∧ cs'.take (k + 1) = zs.take (k + 1)) := ⟨cs.set k (x0, x1, x2), ho2, by simpa using HLL.out, ht2⟩
      clear ht2 ho2 ho hfz
      go_wp2
      exact ⟨⟨k + 1, by omega, by go_num, H2, hB2⟩, by simp [intOf]; omega⟩
    · clear ho hl ht
      go_wp2
      go_ret
      obtain ⟨cs, ho, hl, ht⟩ := HI.out
      obtain rfl : k = zs.length := by omega
      rw [List.take_of_length_le (by omega), List.take_of_length_le (Nat.le_refl _)] at ht
      subst ht
      exact ⟨_, rfl, ho, hB⟩

theorem eqLimbS_any (zs : List (Int × Int × Int)) (v u : Value) (w : World) (h : RdLimb w v zs) (h' : RdLimb w u zs) :
    Calls Try.prog 55 #[v, u] w fun e w' => e = .returned (.bool true) ∧ Below w.heap.size w w' := by
  obtain ⟨ad, cap, bl, off, rfl, hcap, hmax, had, hc⟩ := h.open
  obtain ⟨ad', cap', bl', off', rfl, hcap', hmax', had', hc'⟩ := h'.open
  have HC := Lib.hid hc
  have HC' := Lib.hid hc'
  clear h hc h' hc'
  go_enter Try.func55, Try.ntmps55
  go_wp2
  go_loopw [5] (fun i wr => ∃ k : Nat, k ≤ zs.length ∧ i = .int .i64 k ∧ Below w.heap.size w wr) (fun i _ => zs.length - (intOf i).toNat)
  case atStart => exact ⟨0, Nat.zero_le _, rfl, Below.refl _ _⟩
  case round =>
    obtain ⟨k, hk, rfl, hB⟩ := hrel
    by_cases hlt : k < zs.length
    · obtain rfl := had (by omega)
      obtain rfl := had' (by omega)
      obtain ⟨⟨x0, x1, x2⟩, hx⟩ : ∃ x, zs[k]? = some x := ⟨_, List.getElem?_eq_getElem hlt⟩
      have hsrc : wr.cell? ⟨bl, off + k * 3, none⟩ = some (.int .i64 x0) ∧ wr.cell? ⟨bl', off' + k * 3, none⟩ = some (.int .i64 x0) ∧ wr.cell? ⟨bl, off + k * 3 + 1, none⟩ = some (.int .i64 x1) ∧ wr.cell? ⟨bl', off' + k * 3 + 1, none⟩ = some (.int .i64 x1) ∧ wr.cell? ⟨bl, off + k * 3 + 2, none⟩ = some (.int .i64 x2) ∧ wr.cell? ⟨bl', off' + k * 3 + 2, none⟩ = some (.int .i64 x2) := by
        have h1 := HC.out k hlt
        have h2 := HC'.out k hlt
        rw [List.getD_eq_getElem?_getD, hx] at h1 h2
        exact ⟨cell_on hB h1.1, cell_on hB h2.1, cell_on hB h1.2.1, cell_on hB h2.2.1, cell_on hB h1.2.2, cell_on hB h2.2.2⟩
      obtain ⟨k0, m0, k1, m1, k2, m2⟩ := hsrc
      have q1 : (k : Int) < (zs.length : Int) := by omega
      clear hx
      go_wp2
      replace hB := hB.drew
      go_region_held3 (fun w' => w'.cell? ⟨bl, off + k * 3, none⟩ = some (.int .i64 x0) ∧ w'.cell? ⟨bl', off' + k * 3, none⟩ = some (.int .i64 x0) ∧ w'.cell? ⟨bl, off + k * 3 + 1, none⟩ = some (.int .i64 x1) ∧ w'.cell? ⟨bl', off' + k * 3 + 1, none⟩ = some (.int .i64 x1) ∧ w'.cell? ⟨bl, off + k * 3 + 2, none⟩ = some (.int .i64 x2) ∧ w'.cell? ⟨bl', off' + k * 3 + 2, none⟩ = some (.int .i64 x2)) (exact ⟨k0, m0, k1, m1, k2, m2⟩) (first
        | (go_at_call 69; (refine (eqLimb_any _ _ _ _).mono ?_; rintro e w1 ⟨rfl, hb⟩; replace hB := bvia hB hb; replace k0 := cell_on hb k0; replace m0 := cell_on hb m0; replace k1 := cell_on hb k1; replace m1 := cell_on hb m1; replace k2 := cell_on hb k2; replace m2 := cell_on hb m2; clear hb)))
      go_wp2
      exact ⟨⟨k + 1, by omega, by go_num, hB⟩, by simp [intOf]; omega⟩
    · go_wp2
      go_ret
      exact ⟨rfl, hB⟩

theorem szLimbS_ok (n : Nat) (a : Option Addr) (cap : Nat) (l : Int) (hl : l ≤ 1048576) (h : (n : Int) ≤ l) (w : World) :
    Calls Try.prog 53 #[.slice a n cap, .int .i64 l] w fun e w' => e = .returned (.int .i64 (l - n)) ∧ w = w' := by
  go_enter Try.func53, Try.ntmps53
  go_wp2
  go_ret
  exact ⟨rfl, rfl⟩
theorem szLimbS_no (n : Nat) (a : Option Addr) (cap : Nat) (hn : n ≤ 9223372036854775807) (l : Int) (h0 : 0 ≤ l) (hl : l ≤ 1048576) (h : l < (n : Int)) (w : World) :
    Calls Try.prog 53 #[.slice a n cap, .int .i64 l] w fun e w' => e = .returned (.int .i64 (-1)) ∧ w = w' := by
  go_enter Try.func53, Try.ntmps53
  go_wp2
  go_ret
  exact ⟨rfl, rfl⟩

/-- q, q + 1, .. in turn over the fields of n elements. -/
def marksLimb (q : Int) : Nat → List (Int × Int × Int)
  | 0 => []
  | n + 1 => (q, q + 1, q + 1 + 1) :: marksLimb (q + 3) n
theorem marksLimb_length (q : Int) (n : Nat) : (marksLimb q n).length = n := by
  induction n generalizing q with
  | zero => rfl
  | succ n ih => simp [marksLimb, ih]
theorem marksLimb_get (q : Int) (n k : Nat) (h : k < n) : (marksLimb q n)[k]? = some (q + 3 * k, q + 3 * k + 1, q + 3 * k + 1 + 1) := by
  induction n generalizing q k with
  | zero => omega
  | succ n ih =>
    cases k with
    | zero => simp [marksLimb]
    | succ k =>
      have := ih (q + 3) k (by omega)
      simp only [marksLimb, List.getElem?_cons_succ, this, Option.some.injEq, Prod.mk.injEq]
      omega
theorem markLimbS_any (zs : List (Int × Int × Int)) (q : Int) (hq : 0 ≤ q) (hq2 : q + zs.length ≤ 1099511627776) (B : Nat) (v : Value) (w : World) (h : OwLimb w B v zs) :
    Calls Try.prog 59 #[v, .int .i64 q] w fun e w' => e = .returned (.int .i64 (q + 3 * zs.length)) ∧ OwLimb w' B v (marksLimb q zs.length) ∧ w.grownBy w' v.ownBlock := by
  rcases h.slice with ⟨rfl, rfl⟩ | ⟨g, cap, rfl, hg, hgw, hcap, hmax⟩
  · go_enter Try.func59, Try.ntmps59
    go_wp2
    go_rounds 1
    go_ret
    exact ⟨ret_int (by simp), h, World.grownBy.refl _ _⟩
  · have HO := Lib.hid h
    clear h
    go_enter Try.func59, Try.ntmps59
    go_wp2
    go_loopw [1, 5] (fun p i wr => ∃ k : Nat, k ≤ zs.length ∧ i = .int .i64 k ∧ p = .int .i64 (q + 3 * k) ∧ Hid (∃ cs, OwLimb wr B (.slice (some ⟨g, 0, none⟩) zs.length cap) cs ∧ cs.length = zs.length ∧ cs.take k = (marksLimb q zs.length).take k) ∧ w.grownBy wr (some g)) (fun _ i _ => zs.length - (intOf i).toNat)
    case atStart => exact ⟨0, Nat.zero_le _, rfl, by simp, ⟨_, HO.out, rfl, rfl⟩, World.grownBy.refl _ _⟩
    case round =>
     as_aux_lemma =>
      obtain ⟨k, hk, rfl, rfl, HI, hgr⟩ := hrel
      obtain ⟨cs, ho, hl, ht⟩ := HI.out
      by_cases hlt : k < zs.length
      · have hkc : k < cs.length := by omega
        obtain ⟨hd0, hd1, hd2, hfz⟩ := ho.cell hkc
        have hf0 := hfz (k * 3)
        have hf1 := hfz (k * 3 + 1)
        have hf2 := hfz (k * 3 + 2)
        have hp := ho.put hkc (q + 3 * k, q + 3 * k + 1, q + 3 * k + 1 + 1)
        have hgr2 := grownBy_trans hgr hp.2
        have ht2 := take_put (zs := marksLimb q zs.length) (by rw [marksLimb_length]; exact hlt) (marksLimb_get q zs.length k hlt) (by rw [marksLimb_length]; exact hl) ht
        have H2 : Hid (∃ cs', OwLimb (((wr.setCell ⟨g, k * 3, none⟩ (.int .i64 (q + 3 * k))).setCell ⟨g, k * 3 + 1, none⟩ (.int .i64 (q + 3 * k + 1))).setCell ⟨g, k * 3 + 2, none⟩ (.int .i64 (q + 3 * k + 1 + 1))) B (.slice (some ⟨g, 0, none⟩) zs.length cap) cs' ∧ cs'.length = zs.length ∧ cs'.take (k + 1) = (marksLimb q zs.length).take (k + 1)) := ⟨_, hp.1, by simpa using hl, ht2⟩
        clear hp ht2 ho hl ht HI hfz hkc
        go_wp2
        exact ⟨⟨k + 1, by omega, by go_num, by go_num, H2, hgr2⟩, by simp [intOf]; omega⟩
      · clear ho hl ht
        go_wp2
        go_ret
        obtain ⟨cs, ho, hl, ht⟩ := HI.out
        obtain rfl : k = zs.length := by omega
        rw [List.take_of_length_le (by omega), List.take_of_length_le (by rw [marksLimb_length]; exact Nat.le_refl _)] at ht
        subst ht
        exact ⟨rfl, ho, hgr⟩
end Go.Proofs.Ytfedhjfijcnpdaa
