/- The weights of the cues: the reference's l27Sums (a slice), the program's weights (an array). -/
import Derived.Test.YtcplfempajfcdaaNotes
import Derived.Test.YtcplfempajfcdaaApNote
import Derived.Test.YtcplfempajfcdaaRg
import Derived.StillTailTactics
namespace Go.Proofs.Ytcplfempajfcdaa
open Go.ChangeShapes Go.WideShapes Go.ChangeAt Go.RowKit Go.Joins
set_option linter.unusedSimpArgs false
set_option linter.unusedVariables false

theorem take_get? {α : Type} {zs : List α} {k : Nat} {x : α} (h : zs[k]? = some x) : zs.take (k + 1) = zs.take k ++ [x] := by
  have hk := (List.getElem?_eq_some_iff.1 h).1
  rw [List.take_succ_eq_append_getElem hk]
  congr 1
  simp [(List.getElem?_eq_some_iff.1 h).2]
/-- The weight of the notes of cue c. -/
def wsum (c : Int) : List (Int × Int × Int) → Int
  | [] => 0
  | x :: r => (if x.1 = c then x.2.2 else 0) + wsum c r
theorem wsum_snoc (c : Int) (A : List (Int × Int × Int)) (x : Int × Int × Int) : wsum c (A ++ [x]) = wsum c A + if x.1 = c then x.2.2 else 0 := by
  induction A with
  | nil => simp [wsum]
  | cons y r ih => rw [List.cons_append, wsum, wsum, ih]; omega
theorem wsum_bd (c : Int) (zs : List (Int × Int × Int)) (h : ∀ x ∈ zs, 1 ≤ x.2.2 ∧ x.2.2 ≤ 9) : 0 ≤ wsum c zs ∧ wsum c zs ≤ 9 * zs.length := by
  induction zs with
  | nil => simp [wsum]
  | cons y r ih =>
    have h1 := h y (by simp)
    have h2 := ih fun x hx => h x (List.mem_cons_of_mem _ hx)
    rw [wsum, List.length_cons]
    split <;> omega
def sumsL (zs : List (Int × Int × Int)) : List Int := (List.range 12).map fun c => wsum (c : Nat) zs
theorem sumsL_length (zs : List (Int × Int × Int)) : (sumsL zs).length = 12 := by simp [sumsL]
theorem sumsL_get (zs : List (Int × Int × Int)) {c : Nat} (hc : c < 12) : (sumsL zs).getD c 0 = wsum c zs := by
  rw [List.getD_eq_getElem?_getD]
  simp [sumsL, hc]
theorem sumsL_nil : sumsL [] = List.replicate 12 0 := rfl
theorem sumsL_snoc {A : List (Int × Int × Int)} {j : Nat} {x1 x2 : Int} (hj : j < 12) : (sumsL A).set j ((sumsL A).getD j 0 + x2) = sumsL (A ++ [((j : Int), x1, x2)]) := by
  rw [sumsL_get A hj]
  refine List.ext_getElem (by simp [sumsL]) fun i h1 h2 => ?_
  rw [List.getElem_set]
  simp only [sumsL, List.getElem_map, List.getElem_range, wsum_snoc]
  by_cases hi : j = i
  · subst hi; simp
  · have : ¬ (j : Int) = (i : Int) := by omega
    simp [hi, this]

theorem specSums_any (zs : List (Int × Int × Int)) (hok : notesB zs = true) (v : Value) (w : World) (h : RdNote w v zs) :
    Calls Try.prog 37 #[v] w fun e w' => ∃ u, e = .returned u ∧ OwI w' w.heap.size u (sumsL zs) ∧ Below w.heap.size w w' := by
  obtain ⟨hl40, hm⟩ := notesB_bd hok
  have HM := Lib.hid hm
  obtain ⟨ad, cap, bl, off, rfl, hcap, hmax, had, hc⟩ := h.open
  have HC := Lib.hid hc
  clear h hc hm
  have hmk : ∀ w, (Instr.makeSlice 34 (.int .i64 12) (.int .i64 12)).run Try.prog w = .ok (.slice (some ⟨w.heap.size, 0, none⟩) 12 12) (w.alloc (.cells (madeCells #[.int .i64 0] 12) 3)) := fun w => run_make_row' (P := Try.prog) 34 3 (.int .i64 0) 8 underInts infoInt rfl .i64 .i64 12 (by omega) (by omega) w
  have HO := Lib.hid (OwI.made w 12 (by omega))
  go_enter Try.func37, Try.ntmps37
  go_wp2
  clear hmk
  go_loopw [4] (fun i wr => ∃ k : Nat, k ≤ zs.length ∧ i = .int .i64 k ∧ Hid (OwI wr w.heap.size (.slice (some ⟨w.heap.size, 0, none⟩) 12 12) (sumsL (zs.take k))) ∧ Below w.heap.size w wr) (fun i _ => zs.length - (intOf i).toNat)
  case atStart => exact ⟨0, Nat.zero_le _, rfl, by rw [List.take_zero, sumsL_nil]; exact HO.out, below_alloc1 _ _⟩
  case round =>
   as_aux_lemma =>
    clear HO
    obtain ⟨k, hk, rfl, HI, hB⟩ := hrel
    by_cases hlt : k < zs.length
    · obtain rfl := had (by omega)
      obtain ⟨⟨x0, x1, x2⟩, hx⟩ : ∃ x, zs[k]? = some x := ⟨_, List.getElem?_eq_getElem hlt⟩
      have hsrc : wr.cell? ⟨bl, off + k * 3, none⟩ = some (.int .i64 x0) ∧ wr.cell? ⟨bl, off + k * 3 + 1, none⟩ = some (.int .i64 x1) ∧ wr.cell? ⟨bl, off + k * 3 + 2, none⟩ = some (.int .i64 x2) := by
        have h1 := HC.out k hlt
        rw [List.getD_eq_getElem?_getD, hx] at h1
        exact ⟨cell_on hB h1.1, cell_on hB h1.2.1, cell_on hB h1.2.2⟩
      obtain ⟨hck0, hck1, hck2⟩ := hsrc
      obtain ⟨⟨n0, n1⟩, _, n2, n3⟩ := HM.out _ (List.mem_of_getElem? hx)
      simp only [] at n0 n1 n2 n3
      obtain ⟨j, rfl⟩ : ∃ j : Nat, x0 = j := ⟨x0.toNat, by omega⟩
      have hj : j < 12 := by omega
      have hjl : j < (sumsL (zs.take k)).length := by rw [sumsL_length]; exact hj
      have HT := Lib.hid (take_get? hx)
      obtain ⟨hd, hf⟩ := HI.out.cell hjl
      have hb := wsum_bd j (zs.take k) fun x hx => (HM.out x (List.mem_of_mem_take hx)).2.2
      have hl2 : (zs.take k).length ≤ 40 := by rw [List.length_take]; omega
      have hs := HI.out.set j ((sumsL (zs.take k)).getD j 0 + x2)
      rw [sumsL_snoc (x1 := x1) hj, ← HT.out, sumsL_get _ hj] at hs
      rw [sumsL_get _ hj] at hd
      have hB2 := hB.setCell (p := ⟨w.heap.size, j, none⟩) (Nat.le_refl _) (.int .i64 (wsum j (zs.take k) + x2))
      have HS := Lib.hid hs.1
      clear hs hx
      generalize wsum (j : Int) (zs.take k) = y at hd hb HS hB2
      clear HI
      have q1 : (k : Int) < (zs.length : Int) := by omega
      have q2 : (j : Int) < 12 := by omega
      go_wp2
      go_still_tail 21, (by kernel_rfl)
      go_wp2
      exact ⟨⟨k + 1, by omega, by go_num, HS, hB2.drew⟩, by simp [intOf]; omega⟩
    · go_wp2
      go_ret
      obtain rfl : k = zs.length := by omega
      have e := HI.out
      rw [List.take_length] at e
      exact ⟨_, rfl, e, hB⟩

/-- An array of twelve numbers of the call's own at block g. -/
def OwArr (w : World) (B g : Nat) (L : List Int) : Prop := w.ownsRow B 49 12 (.slice (some ⟨g, 0, none⟩) 1 1) 1 (ints L)
theorem OwArr.length {w : World} {B g : Nat} {L : List Int} (h : OwArr w B g L) : L.length = 12 := by
  have := h.1
  rw [ints_length] at this
  omega
theorem OwArr.lt {w : World} {B g : Nat} {L : List Int} (h : OwArr w B g L) : B ≤ g ∧ g < w.heap.size := World.ownsRow.lt h g rfl
theorem OwArr.below {w w' : World} {B g : Nat} {L : List Int} (h : OwArr w B g L) (hb : Below w.heap.size w w') : OwArr w' B g L := own_below h hb
theorem OwArr.alloc {w : World} {B g : Nat} {L : List Int} (h : OwArr w B g L) (o : Obj) : OwArr (w.alloc o) B g L := World.ownsRow.alloc h o
theorem OwArr.cell {w : World} {B g : Nat} {L : List Int} (h : OwArr w B g L) {j : Nat} (hj : j < 12) : w.cell? ⟨g, j, none⟩ = some (.int .i64 (L.getD j 0)) ∧ w.frozen? ⟨g, j, none⟩ = false := by
  have hl := h.length
  refine ⟨?_, World.ownsRow.frozenAt h j⟩
  rw [World.ownsRow.cellAt h j (by omega), ints_get, List.getElem?_eq_getElem (by omega)]
  simp [show j < L.length by omega]
theorem OwArr.set {w : World} {B g : Nat} {L : List Int} (h : OwArr w B g L) (j : Nat) (x : Int) : OwArr (w.setCell ⟨g, j, none⟩ (.int .i64 x)) B g (L.set j x) ∧ w.grownBy (w.setCell ⟨g, j, none⟩ (.int .i64 x)) (some g) := by
  have h1 := World.ownsRow.stored h j (.int .i64 x)
  have e : (ints L).set j (.int .i64 x) = ints (L.set j x) := by simp [ints, List.map_set]
  rw [e] at h1
  exact h1
theorem OwArr.kept {w w' : World} {B g g' : Nat} {L : List Int} (h : OwArr w B g L) (hg : w.grownBy w' (some g')) (hd : g ≠ g') : OwArr w' B g L := World.ownsRow.kept h hg (.inr (by simpa [Value.ownBlock] using hd))
theorem OwArr.heap {w : World} {B g : Nat} {L : List Int} (h : OwArr w B g L) : w.heap[g]? = some (.cells (ints L).toArray 49 (0, 0)) := by
  rcases h.2 with ⟨h', _⟩ | ⟨g', cap, cur, h', hg, hh, hn, hm, hs, ht⟩
  · simp at h'
  · simp only [Value.slice.injEq, Option.some.injEq, Addr.mk.injEq] at h'
    obtain ⟨⟨rfl, _⟩, _, rfl⟩ := h'
    rw [List.take_of_length_le (by simp; omega)] at ht
    rw [hh, ← ht]
theorem OwArr.made (w : World) {L : List Int} (hl : L.length = 12) : OwArr (w.alloc (.cells (ints L).toArray 49)) w.heap.size w.heap.size L := by
  have h := World.ownsRow_lit (base := w.heap.size) (e := 49) (size := 12) w (ints L).toArray 1 (Nat.le_refl _) (by rw [maxLen_eq]; omega) (by simp [ints_length, hl])
  exact h
theorem ints_all (L : List Int) : (ints L).toArray.all (·.oneCell') = true := by
  rw [Array.all_eq_true_iff_forall_mem]
  intro u hu
  exact ints_one L u (by simpa using hu)
theorem below_setRow {a w : World} {B g : Nat} (h : Below B a w) (hg : B ≤ g) (cs : Array Value) : Below B a (w.setRow g cs) := by
  refine h.trans ⟨rfl, rfl, rfl, by simp [World.setRow], fun k hk => ?_⟩
  simp only [World.setRow, Array.getElem?_modify]
  rw [if_neg (by omega)]
theorem infoArr : (Try.prog.info? 49).map (·.size) = some 12 := by kernel_rfl

theorem implWeights_any (zs : List (Int × Int × Int)) (hok : notesB zs = true) (v : Value) (w : World) (h : RdNote w v zs) :
    Calls Try.prog 38 #[v] w fun e w' => e = .returned (.agg (ints (sumsL zs)).toArray) ∧ Below w.heap.size w w' := by
  obtain ⟨hl40, hm⟩ := notesB_bd hok
  have HM := Lib.hid hm
  obtain ⟨ad, cap, bl, off, rfl, hcap, hmax, had, hc⟩ := h.open
  have HC := Lib.hid hc
  clear h hc hm
  have hz : #[Value.int .i64 0, .int .i64 0, .int .i64 0, .int .i64 0, .int .i64 0, .int .i64 0, .int .i64 0, .int .i64 0, .int .i64 0, .int .i64 0, .int .i64 0, .int .i64 0] = (ints (sumsL [])).toArray := rfl
  have HA := Lib.hid (OwArr.made w (sumsL_length []))
  have HA2 : Hid (OwArr ((w.alloc (.cells (ints (sumsL [])).toArray 49)).alloc (.cells (ints (sumsL [])).toArray 49)) w.heap.size (w.heap.size + 1) (sumsL [])) := by
    have h := OwArr.made (w.alloc (.cells (ints (sumsL [])).toArray 49)) (sumsL_length [])
    have e : (w.alloc (.cells (ints (sumsL [])).toArray 49)).heap.size = w.heap.size + 1 := by simp
    rw [e] at h
    exact own_base h (by omega)
  have HZ := Lib.hid hz
  clear hz
  go_enter Try.func38, Try.ntmps38
  go_wp2
  clear HZ
  go_loopw [9] (fun i wr => ∃ k : Nat, k ≤ zs.length ∧ i = .int .i64 k ∧ Hid (OwArr wr w.heap.size (w.heap.size + 1) (sumsL (zs.take k)) ∧ OwArr wr w.heap.size w.heap.size (sumsL [])) ∧ Below w.heap.size w wr) (fun i _ => zs.length - (intOf i).toNat)
  case atStart => exact ⟨0, Nat.zero_le _, rfl, ⟨HA2.out, HA.out.alloc _⟩, (below_alloc1 _ _).alloc (by simp) _⟩
  case round =>
   as_aux_lemma =>
    clear HA HA2
    obtain ⟨k, hk, rfl, HI, hB⟩ := hrel
    by_cases hlt : k < zs.length
    · obtain rfl := had (by omega)
      obtain ⟨⟨x0, x1, x2⟩, hx⟩ : ∃ x, zs[k]? = some x := ⟨_, List.getElem?_eq_getElem hlt⟩
      have hsrc : wr.cell? ⟨bl, off + k * 3, none⟩ = some (.int .i64 x0) ∧ wr.cell? ⟨bl, off + k * 3 + 1, none⟩ = some (.int .i64 x1) ∧ wr.cell? ⟨bl, off + k * 3 + 2, none⟩ = some (.int .i64 x2) := by
        have h1 := HC.out k hlt
        rw [List.getD_eq_getElem?_getD, hx] at h1
        exact ⟨cell_on hB h1.1, cell_on hB h1.2.1, cell_on hB h1.2.2⟩
      obtain ⟨hck0, hck1, hck2⟩ := hsrc
      obtain ⟨⟨n0, n1⟩, _, n2, n3⟩ := HM.out _ (List.mem_of_getElem? hx)
      simp only [] at n0 n1 n2 n3
      obtain ⟨j, rfl⟩ : ∃ j : Nat, x0 = j := ⟨x0.toNat, by omega⟩
      have hj : j < 12 := by omega
      have HT := Lib.hid (take_get? hx)
      have HM2 := Lib.hid (fun (x : Int × Int × Int) (hx : x ∈ zs.take k) => (HM.out x (List.mem_of_mem_take hx)).2.2)
      have hl2 : (zs.take k).length ≤ 40 := by rw [List.length_take]; omega
      clear hx
      go_wp2
      obtain ⟨W, hW⟩ : ∃ W, W = wr.alloc (.cells #[.int .i64 j, .int .i64 x1, .int .i64 x2] 42) := ⟨_, rfl⟩
      have k0 : W.cell? ⟨wr.heap.size, 0, none⟩ = some (.int .i64 j) := by rw [hW]; simp [go_sem]
      have k2 : W.cell? ⟨wr.heap.size, 2, none⟩ = some (.int .i64 x2) := by rw [hW]; simp [go_sem]
      have hA1 : OwArr W w.heap.size (w.heap.size + 1) (sumsL (zs.take k)) := by rw [hW]; exact HI.out.1.alloc _
      have hA0 : OwArr W w.heap.size w.heap.size (sumsL []) := by rw [hW]; exact HI.out.2.alloc _
      have hB1 : Below w.heap.size w W := by rw [hW]; exact hB.alloc hB.size _
      rw [← hW]
      clear hW HI hB hck0 hck1 hck2
      obtain ⟨hd, hf⟩ := hA1.cell hj
      have hs := hA1.set j ((sumsL (zs.take k)).getD j 0 + x2)
      rw [sumsL_snoc (x1 := x1) hj, ← HT.out, sumsL_get _ hj] at hs
      rw [sumsL_get _ hj] at hd
      have hb := wsum_bd j (zs.take k) HM2.out
      have hA2 := hA0.kept hs.2 (by omega)
      have hB2 := hB1.setCell (p := ⟨w.heap.size + 1, j, none⟩) (by simp) (.int .i64 (wsum j (zs.take k) + x2))
      have HS := Lib.hid (And.intro hs.1 hA2)
      clear hs hA1 hA0 hA2
      generalize wsum (j : Int) (zs.take k) = y at hd hb HS hB2
      have q2 : (j : Int) < 12 := by omega
      go_still_tail 8, (by kernel_rfl)
      go_wp2
      exact ⟨⟨k + 1, by omega, by go_num, HS, hB2.drew⟩, by simp [intOf]; omega⟩
    · have hA1 := HI.out.1
      obtain rfl : k = zs.length := by omega
      rw [List.take_length] at hA1
      have hA0 := HI.out.2
      have hi : (Try.prog.info? 49).map (·.size) = some (ints (sumsL zs)).toArray.size := by rw [infoArr]; simp [ints_length, sumsL_length]
      have hh := Lib.hid hA1.heap
      have hh0 := Lib.hid hA0.heap
      have hset := Lib.hid (setRow_heap wr w.heap.size _ (ints (sumsL zs)).toArray _ _ hA0.heap)
      have hsz : (ints (sumsL [])).toArray.size = (ints (sumsL zs)).toArray.size := by simp [ints_length, sumsL_length]
      have HSZ := Lib.hid hsz
      clear hsz
      have HI2 := Lib.hid hi
      clear hi
      clear hA1 hA0
      go_wp2_with (first
        | (refine wpList_load_row rfl 49 (.tmp 3) rfl (w.heap.size + 1) rfl 49 (ints (sumsL zs)).toArray (0, 0) _ hh.out Try.underlying49 rfl HI2.out ?_)
        | (refine wpList_store_row rfl 49 (.tmp 2) (.tmp 22) rfl w.heap.size (ints (sumsL zs)).toArray rfl rfl 49 (ints (sumsL [])).toArray hh0.out HI2.out HSZ.out (ints_all _) ?_))
      refine bodyPost_ret (results_cell_row rfl _ _ w.heap.size 49 _ (0, 0) _ rfl hset.out Try.underlying49 rfl HI2.out) rfl ?_
      exact ⟨rfl, below_setRow hB (Nat.le_refl _) _⟩
end Go.Proofs.Ytcplfempajfcdaa
