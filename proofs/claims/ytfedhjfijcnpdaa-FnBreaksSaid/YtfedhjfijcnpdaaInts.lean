/- The walks of the laws' helpers on []int: toIntS copies a list, eqIntS compares two lists that are equal, markIntS writes k, k+1, .. into a list of the call's own, heldIntS finds them there. -/
import Derived.Test.YtfedhjfijcnpdaaAll
namespace Go.Proofs.Ytfedhjfijcnpdaa
open Go.ChangeShapes Go.WideShapes Go.ChangeAt Go.RowKit Go.Joins

theorem take_set_succ {zs cs : List Int} {k : Nat} (hk : k < zs.length) (hl : cs.length = zs.length) (h : cs.take k = zs.take k) : (cs.set k (zs.getD k 0)).take (k + 1) = zs.take (k + 1) := by
  rw [List.take_succ_eq_append_getElem (by simp; omega), List.take_succ_eq_append_getElem hk, List.take_set_of_le (Nat.le_refl k), h]
  simp [hk]

theorem toIntS_any (zs : List Int) (hn : zs.length ≤ 1048576) (v : Value) (w : World) (h : RdI w v zs) :
    Calls Try.prog 30 #[v] w fun e w' => ∃ u, e = .returned u ∧ OwI w' w.heap.size u zs ∧ Below w.heap.size w w' := by
  obtain ⟨ad, cap, bl, off, rfl, hcap, hmax, had, hc⟩ := h.open
  have HC := Lib.hid hc
  clear h hc
  have hmk := run_make_row' (P := Try.prog) 27 3 (.int .i64 0) 8 underInts infoInt rfl .i64 .i64 zs.length (by omega) (by omega)
  have HO := Lib.hid (OwI.made w zs.length (by omega))
  go_enter Try.func30, Try.ntmps30
  go_wp2
  clear hmk
  go_loopw [4] (fun i wr => ∃ k : Nat, k ≤ zs.length ∧ i = .int .i64 k ∧ Hid (∃ cs, OwI wr w.heap.size (.slice (some ⟨w.heap.size, 0, none⟩) zs.length zs.length) cs ∧ cs.length = zs.length ∧ cs.take k = zs.take k) ∧ Below w.heap.size w wr) (fun i _ => zs.length - (intOf i).toNat)
  case atStart => exact ⟨0, Nat.zero_le _, rfl, ⟨_, HO.out, by simp, rfl⟩, below_alloc1 _ _⟩
  case round =>
    obtain ⟨k, hk, rfl, HI, hB⟩ := hrel
    obtain ⟨cs, ho, hl, ht⟩ := HI.out
    by_cases hlt : k < zs.length
    · obtain rfl := had (by omega)
      obtain ⟨x, hck, hx⟩ : ∃ x, w.cell? ⟨bl, off + k, none⟩ = some (.int .i64 x) ∧ x = zs.getD k 0 := ⟨_, HC.out k hlt, rfl⟩
      replace hck := cell_on hB hck
      obtain ⟨hd, hf⟩ := ho.cell (k := k) (by omega)
      have ho2 := ho.set k x
      have hB2 : Below w.heap.size w (wr.setCell ⟨w.heap.size, k, none⟩ (.int .i64 x)) := hB.setCell (Nat.le_refl _) _
      have ht2 := take_set_succ hlt hl ht
      rw [← hx] at ht2
      have H2 := Lib.hid (⟨cs.set k x, ho2.1, by simpa using hl, ht2⟩ : ∃ cs', OwI (wr.setCell ⟨w.heap.size, k, none⟩ (.int .i64 x)) w.heap.size (.slice (some ⟨w.heap.size, 0, none⟩) zs.length zs.length) cs' ∧ cs'.length = zs.length ∧ cs'.take (k + 1) = zs.take (k + 1))
      clear hx ht2 ho2 ho hl ht HI
      go_wp2
      exact ⟨⟨k + 1, by omega, by go_num, H2, hB2⟩, by simp [intOf]; omega⟩
    · clear ho hl ht
      go_wp2
      go_ret
      obtain ⟨cs, ho, hl, ht⟩ := HI.out
      obtain rfl : k = zs.length := by omega
      rw [List.take_of_length_le (by omega), List.take_of_length_le (Nat.le_refl _)] at ht
      subst ht
      exact ⟨_, rfl, ho, hB⟩

theorem eqIntS_any (zs : List Int) (v u : Value) (w : World) (h : RdI w v zs) (h' : RdI w u zs) :
    Calls Try.prog 32 #[v, u] w fun e w' => e = .returned (.bool true) ∧ Dr w w' := by
  obtain ⟨ad, cap, bl, off, rfl, hcap, hmax, had, hc⟩ := h.open
  obtain ⟨ad', cap', bl', off', rfl, hcap', hmax', had', hc'⟩ := h'.open
  have HC := Lib.hid hc
  have HC' := Lib.hid hc'
  clear h hc h' hc'
  go_enter Try.func32, Try.ntmps32
  go_wp2
  go_loopw [5] (fun i wr => ∃ k : Nat, k ≤ zs.length ∧ i = .int .i64 k ∧ Dr w wr) (fun i _ => zs.length - (intOf i).toNat)
  case atStart => exact ⟨0, Nat.zero_le _, rfl, Dr.refl _⟩
  case round =>
    obtain ⟨k, hk, rfl, hD⟩ := hrel
    by_cases hlt : k < zs.length
    · obtain rfl := had (by omega)
      obtain rfl := had' (by omega)
      obtain ⟨x, hck, hck'⟩ : ∃ x, wr.cell? ⟨bl, off + k, none⟩ = some (.int .i64 x) ∧ wr.cell? ⟨bl', off' + k, none⟩ = some (.int .i64 x) := ⟨_, hD.cell (HC.out k hlt), hD.cell (HC'.out k hlt)⟩
      go_wp2
      go_quiet (fail)
      go_wp2
      exact ⟨⟨k + 1, by omega, by go_num, hD.next _⟩, by simp [intOf]; omega⟩
    · go_wp2
      go_ret
      exact ⟨rfl, hD⟩

/-- k, k + 1, .., n numbers. -/
def marks (k : Int) : Nat → List Int
  | 0 => []
  | n + 1 => k :: marks (k + 1) n
theorem marks_length (k : Int) (n : Nat) : (marks k n).length = n := by
  induction n generalizing k with
  | zero => rfl
  | succ n ih => simp [marks, ih]
theorem marks_get (k : Int) (n j : Nat) (h : j < n) : (marks k n).getD j 0 = k + j := by
  induction n generalizing k j with
  | zero => omega
  | succ n ih =>
    cases j with
    | zero => simp [marks]
    | succ j =>
      have := ih (k + 1) j (by omega)
      simp only [marks, List.getD_cons_succ, this]
      omega
theorem take_set_marks {cs : List Int} {n j : Nat} {k : Int} (hj : j < n) (hl : cs.length = n) (h : cs.take j = (marks k n).take j) : (cs.set j (k + j)).take (j + 1) = (marks k n).take (j + 1) := by
  have := take_set_succ (zs := marks k n) (cs := cs) (k := j) (by rw [marks_length]; exact hj) (by rw [marks_length]; exact hl) h
  rw [marks_get k n j hj] at this
  exact this

theorem markIntS_any (zs : List Int) (q : Int) (hq : 0 ≤ q) (hq2 : q + zs.length ≤ 1099511627776) (B : Nat) (v : Value) (w : World) (h : OwI w B v zs) :
    Calls Try.prog 38 #[v, .int .i64 q] w fun e w' => e = .returned (.int .i64 (q + zs.length)) ∧ OwI w' B v (marks q zs.length) ∧ w.grownBy w' v.ownBlock := by
  rcases h.slice with ⟨rfl, rfl⟩ | ⟨g, cap, rfl, hg, hgw, hcap, hmax⟩
  · go_enter Try.func38, Try.ntmps38
    go_wp2
    go_rounds 1
    go_ret
    exact ⟨ret_int (by simp), h, World.grownBy.refl _ _⟩
  · have HO := Lib.hid h
    clear h
    go_enter Try.func38, Try.ntmps38
    go_wp2
    go_loopw [1, 5] (fun p i wr => ∃ k : Nat, k ≤ zs.length ∧ i = .int .i64 k ∧ p = .int .i64 (q + k) ∧ Hid (∃ cs, OwI wr B (.slice (some ⟨g, 0, none⟩) zs.length cap) cs ∧ cs.length = zs.length ∧ cs.take k = (marks q zs.length).take k) ∧ w.grownBy wr (some g)) (fun _ i _ => zs.length - (intOf i).toNat)
    case atStart => exact ⟨0, Nat.zero_le _, rfl, by simp, ⟨_, HO.out, rfl, rfl⟩, World.grownBy.refl _ _⟩
    case round =>
      obtain ⟨k, hk, rfl, rfl, HI, hgr⟩ := hrel
      obtain ⟨cs, ho, hl, ht⟩ := HI.out
      by_cases hlt : k < zs.length
      · obtain ⟨hd, hf⟩ := ho.cell (k := k) (by omega)
        have ho2 := ho.set k (q + k)
        have hgr2 : w.grownBy (wr.setCell ⟨g, k, none⟩ (.int .i64 (q + k))) (some g) :=
          ⟨ho2.2.os.trans hgr.os, ho2.2.tape.trans hgr.tape, ho2.2.output.trans hgr.output, Nat.le_trans hgr.size ho2.2.size, fun j hj hne => (ho2.2.block j (Nat.lt_of_lt_of_le hj hgr.size) hne).trans (hgr.block j hj hne)⟩
        have ht2 := take_set_marks hlt hl ht
        have H2 := Lib.hid (⟨cs.set k (q + k), ho2.1, by simpa using hl, ht2⟩ : ∃ cs', OwI (wr.setCell ⟨g, k, none⟩ (.int .i64 (q + k))) B (.slice (some ⟨g, 0, none⟩) zs.length cap) cs' ∧ cs'.length = zs.length ∧ cs'.take (k + 1) = (marks q zs.length).take (k + 1))
        clear ht2 ho2 ho hl ht HI
        go_wp2
        exact ⟨⟨k + 1, by omega, by go_num, by go_num, H2, hgr2⟩, by simp [intOf]; omega⟩
      · clear ho hl ht
        go_wp2
        go_ret
        obtain ⟨cs, ho, hl, ht⟩ := HI.out
        obtain rfl : k = zs.length := by omega
        rw [List.take_of_length_le (by omega), List.take_of_length_le (by rw [marks_length]; exact Nat.le_refl _)] at ht
        subst ht
        exact ⟨rfl, ho, hgr⟩

theorem heldIntS_any (n : Nat) (q : Int) (hq : 0 ≤ q) (hq2 : q + n ≤ 1099511627776) (v : Value) (w : World) (h : RdI w v (marks q n)) :
    Calls Try.prog 39 #[v, .int .i64 q] w fun e w' => e = .returned (.int .i64 (q + n)) ∧ w = w' := by
  obtain ⟨ad, cap, bl, off, rfl, hcap, hmax, had, hc⟩ := h.open
  rw [marks_length] at had hc hcap
  rw [marks_length]
  have HC := Lib.hid hc
  clear h hc
  go_enter Try.func39, Try.ntmps39
  go_wp2
  go_loop [1, 5] (fun p i => ∃ k : Nat, k ≤ n ∧ i = .int .i64 k ∧ p = .int .i64 (q + k)) (fun _ i => n - (intOf i).toNat)
  case atStart => exact ⟨0, Nat.zero_le _, rfl, by simp⟩
  case round =>
    obtain ⟨k, hk, rfl, rfl⟩ := hrel
    by_cases hlt : k < n
    · obtain rfl := had (by omega)
      have hck : w.cell? ⟨bl, off + k, none⟩ = some (.int .i64 (q + k)) := by rw [HC.out k hlt, marks_get _ _ _ hlt]
      go_wp2
      exact ⟨⟨k + 1, by omega, by go_num, by go_num⟩, by simp [intOf]; omega⟩
    · go_wp2
      go_ret
      obtain rfl : k = n := by omega
      exact ⟨rfl, rfl⟩
end Go.Proofs.Ytfedhjfijcnpdaa
