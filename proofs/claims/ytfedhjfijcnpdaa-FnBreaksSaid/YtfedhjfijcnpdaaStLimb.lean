/- Slices of Limb (structs of 3 whole numbers): what one reads as, one of the call's own, stores into it; the laws' helpers on them. -/
import Derived.Test.YtfedhjfijcnpdaaApp
import Derived.Test.YtfedhjfijcnpdaaOpen
namespace Go.Proofs.Ytfedhjfijcnpdaa
open Go.ChangeShapes Go.WideShapes Go.ChangeAt Go.RowKit Go.Joins Go.Deep
set_option linter.unusedSimpArgs false
set_option linter.unusedVariables false

def flLimb (zs : List (Int × Int × Int)) : List Value := zs.flatMap fun x => [.int .i64 x.1, .int .i64 x.2.1, .int .i64 x.2.2]
theorem flLimb_cons (x : Int × Int × Int) (r : List (Int × Int × Int)) : flLimb (x :: r) = .int .i64 x.1 :: .int .i64 x.2.1 :: .int .i64 x.2.2 :: flLimb r := rfl
theorem flLimb_length (zs : List (Int × Int × Int)) : (flLimb zs).length = zs.length * 3 := by
  induction zs with
  | nil => rfl
  | cons x r ih => rw [flLimb_cons]; simp only [List.length_cons, ih]; omega
theorem flLimb_append (xs ys : List (Int × Int × Int)) : flLimb (xs ++ ys) = flLimb xs ++ flLimb ys := by simp [flLimb]
theorem flLimb_one (zs : List (Int × Int × Int)) : ∀ u ∈ flLimb zs, u.oneCell' = true := by
  induction zs with
  | nil => intro u hu; simp [flLimb] at hu
  | cons x r ih =>
    intro u hu
    rw [flLimb_cons] at hu
    simp only [List.mem_cons] at hu
    rcases hu with rfl | rfl | rfl | hu
    · rfl
    · rfl
    · rfl
    · exact ih u hu
theorem flLimb_get0 (zs : List (Int × Int × Int)) (i : Nat) : (flLimb zs)[i * 3]? = (zs[i]?).map fun x => .int .i64 x.1 := by
  induction zs generalizing i with
  | nil => simp [flLimb]
  | cons x r ih =>
    rw [flLimb_cons]
    cases i with
    | zero => simp
    | succ i =>
      rw [show (i + 1) * 3 = (i * 3) + 1 + 1 + 1 by omega]
      simp only [List.getElem?_cons_succ]
      exact ih i
theorem flLimb_set0 (zs : List (Int × Int × Int)) (i : Nat) (y : Int) (h : i < zs.length) : (flLimb zs).set (i * 3) (.int .i64 y) = flLimb (zs.set i (y, (zs.getD i (0, 0, 0)).2.1, (zs.getD i (0, 0, 0)).2.2)) := by
  induction zs generalizing i with
  | nil => simp at h
  | cons x r ih =>
    cases i with
    | zero => simp [flLimb_cons]
    | succ i =>
      rw [show (i + 1) * 3 = (i * 3) + 1 + 1 + 1 by omega]
      rw [List.set_cons_succ, flLimb_cons, flLimb_cons]
      simp only [List.set_cons_succ, List.getD_cons_succ]
      rw [ih i (by simpa using h)]
theorem flLimb_get1 (zs : List (Int × Int × Int)) (i : Nat) : (flLimb zs)[i * 3 + 1]? = (zs[i]?).map fun x => .int .i64 x.2.1 := by
  induction zs generalizing i with
  | nil => simp [flLimb]
  | cons x r ih =>
    rw [flLimb_cons]
    cases i with
    | zero => simp
    | succ i =>
      rw [show (i + 1) * 3 + 1 = (i * 3 + 1) + 1 + 1 + 1 by omega]
      simp only [List.getElem?_cons_succ]
      exact ih i
theorem flLimb_set1 (zs : List (Int × Int × Int)) (i : Nat) (y : Int) (h : i < zs.length) : (flLimb zs).set (i * 3 + 1) (.int .i64 y) = flLimb (zs.set i ((zs.getD i (0, 0, 0)).1, y, (zs.getD i (0, 0, 0)).2.2)) := by
  induction zs generalizing i with
  | nil => simp at h
  | cons x r ih =>
    cases i with
    | zero => simp [flLimb_cons]
    | succ i =>
      rw [show (i + 1) * 3 + 1 = (i * 3 + 1) + 1 + 1 + 1 by omega]
      rw [List.set_cons_succ, flLimb_cons, flLimb_cons]
      simp only [List.set_cons_succ, List.getD_cons_succ]
      rw [ih i (by simpa using h)]
theorem flLimb_get2 (zs : List (Int × Int × Int)) (i : Nat) : (flLimb zs)[i * 3 + 2]? = (zs[i]?).map fun x => .int .i64 x.2.2 := by
  induction zs generalizing i with
  | nil => simp [flLimb]
  | cons x r ih =>
    rw [flLimb_cons]
    cases i with
    | zero => simp
    | succ i =>
      rw [show (i + 1) * 3 + 2 = (i * 3 + 2) + 1 + 1 + 1 by omega]
      simp only [List.getElem?_cons_succ]
      exact ih i
theorem flLimb_set2 (zs : List (Int × Int × Int)) (i : Nat) (y : Int) (h : i < zs.length) : (flLimb zs).set (i * 3 + 2) (.int .i64 y) = flLimb (zs.set i ((zs.getD i (0, 0, 0)).1, (zs.getD i (0, 0, 0)).2.1, y)) := by
  induction zs generalizing i with
  | nil => simp at h
  | cons x r ih =>
    cases i with
    | zero => simp [flLimb_cons]
    | succ i =>
      rw [show (i + 1) * 3 + 2 = (i * 3 + 2) + 1 + 1 + 1 by omega]
      rw [List.set_cons_succ, flLimb_cons, flLimb_cons]
      simp only [List.set_cons_succ, List.getD_cons_succ]
      rw [ih i (by simpa using h)]
/-- v reads in w as the list zs. -/
def RdLimb (w : World) (v : Value) (zs : List (Int × Int × Int)) : Prop := Rd w v zs.length (flLimb zs)
/-- v is a slice of the call's own (its block from B on) that holds zs. -/
def OwLimb (w : World) (B : Nat) (v : Value) (zs : List (Int × Int × Int)) : Prop := w.ownsRow B 80 3 v zs.length (flLimb zs)
theorem RdLimb.below {w w' : World} {v : Value} {zs : List (Int × Int × Int)} (h : RdLimb w v zs) (hb : Below w.heap.size w w') : RdLimb w' v zs := Rd.below h hb
theorem RdLimb.dr {w w' : World} {v : Value} {zs : List (Int × Int × Int)} (h : RdLimb w v zs) (hd : Dr w w') : RdLimb w' v zs := h.below hd.below
theorem RdLimb.drewN {w : World} {v : Value} {zs : List (Int × Int × Int)} (h : RdLimb w v zs) (n : Nat) : RdLimb (w.drewN n) v zs := h
theorem RdLimb.shape {w : World} {v : Value} {zs : List (Int × Int × Int)} (h : RdLimb w v zs) : ∃ a cap, v = .slice a zs.length cap := by
  obtain ⟨a, cap, b, off, hv, _⟩ := h
  exact ⟨a, cap, hv⟩
theorem OwLimb.rd {w : World} {B : Nat} {v : Value} {zs : List (Int × Int × Int)} (h : OwLimb w B v zs) : RdLimb w v zs := Rd.of_own h
theorem OwLimb.below {w w' : World} {B : Nat} {v : Value} {zs : List (Int × Int × Int)} (h : OwLimb w B v zs) (hb : Below w.heap.size w w') : OwLimb w' B v zs := own_below h hb
theorem OwLimb.drewN {w : World} {B : Nat} {v : Value} {zs : List (Int × Int × Int)} (h : OwLimb w B v zs) (n : Nat) : OwLimb (w.drewN n) B v zs := h
theorem OwLimb.alloc {w : World} {B : Nat} {v : Value} {zs : List (Int × Int × Int)} (h : OwLimb w B v zs) (o : Obj) : OwLimb (w.alloc o) B v zs := World.ownsRow.alloc h o
theorem OwLimb.lt {w : World} {B : Nat} {v : Value} {zs : List (Int × Int × Int)} (h : OwLimb w B v zs) : ∀ k, v.ownBlock = some k → B ≤ k ∧ k < w.heap.size := World.ownsRow.lt h
theorem OwLimb.base {w : World} {B B' : Nat} {v : Value} {zs : List (Int × Int × Int)} (h : OwLimb w B v zs) (hB : B' ≤ B) : OwLimb w B' v zs := own_base h hB
theorem OwLimb.nil (w : World) (B : Nat) : OwLimb w B (.slice none 0 0) [] := World.ownsRow_nil _ _ _ _
theorem OwLimb.empty (w : World) (B : Nat) (hB : B ≤ w.heap.size) : OwLimb (w.alloc (.cells #[] 80)) B (.slice (some ⟨w.heap.size, 0, none⟩) 0 0) [] := World.ownsRow_lit w #[] 0 hB (by omega) rfl
theorem OwLimb.kept {w w' : World} {B : Nat} {v u : Value} {zs : List (Int × Int × Int)} (h : OwLimb w B v zs) (hg : w.grownBy w' u.ownBlock) (hd : Dis v u) : OwLimb w' B v zs := World.ownsRow.kept h hg hd
theorem OwLimb.grown_below {a w w' : World} {B : Nat} {v : Value} {zs : List (Int × Int × Int)} (o : OwLimb w B v zs) (h : Below a.heap.size a w) (hB : a.heap.size ≤ B) (hg : w.grownBy w' v.ownBlock) : Below a.heap.size a w' := below_grown h hg (fun k hk => (o.lt k hk).1) hB
theorem RdLimb.open {w : World} {v : Value} {zs : List (Int × Int × Int)} (h : RdLimb w v zs) : ∃ (a : Option Addr) (cap b off : Nat), v = .slice a zs.length cap ∧ zs.length ≤ cap ∧ cap ≤ 9223372036854775807 ∧
    (0 < zs.length → a = some ⟨b, off, none⟩) ∧ ∀ i, i < zs.length → w.cell? ⟨b, off + i * 3, none⟩ = some (.int .i64 (zs.getD i (0, 0, 0)).1) ∧ w.cell? ⟨b, off + i * 3 + 1, none⟩ = some (.int .i64 (zs.getD i (0, 0, 0)).2.1) ∧ w.cell? ⟨b, off + i * 3 + 2, none⟩ = some (.int .i64 (zs.getD i (0, 0, 0)).2.2) := by
  obtain ⟨a, cap, b, off, hv, h1, h2, h3, h4⟩ := h
  refine ⟨a, cap, b, off, hv, h1, h2, fun h0 => h3 (by rw [flLimb_length]; omega), fun i hi => ⟨?_, ?_, ?_⟩⟩
  · have := h4 (i * 3) _ (by rw [flLimb_get0, List.getElem?_eq_getElem hi]; rfl)
    simpa [List.getD_eq_getElem?_getD, List.getElem?_eq_getElem hi, Nat.add_assoc] using this
  · have := h4 (i * 3 + 1) _ (by rw [flLimb_get1, List.getElem?_eq_getElem hi]; rfl)
    simpa [List.getD_eq_getElem?_getD, List.getElem?_eq_getElem hi, Nat.add_assoc] using this
  · have := h4 (i * 3 + 2) _ (by rw [flLimb_get2, List.getElem?_eq_getElem hi]; rfl)
    simpa [List.getD_eq_getElem?_getD, List.getElem?_eq_getElem hi, Nat.add_assoc] using this
theorem OwLimb.slice {w : World} {B : Nat} {v : Value} {zs : List (Int × Int × Int)} (h : OwLimb w B v zs) : (v = .slice none 0 0 ∧ zs = []) ∨ ∃ g cap, v = .slice (some ⟨g, 0, none⟩) zs.length cap ∧ B ≤ g ∧ g < w.heap.size ∧ zs.length ≤ cap ∧ cap ≤ 9223372036854775807 := by
  rcases h.2 with ⟨rfl, h0⟩ | ⟨g, cap, cur, rfl, hg, hh, hn, hm, _⟩
  · exact .inl ⟨rfl, List.eq_nil_of_length_eq_zero h0⟩
  · exact .inr ⟨g, cap, rfl, hg, (Array.getElem?_eq_some_iff.1 hh).1, hn, by rw [maxLen_eq] at hm; exact hm⟩
theorem OwLimb.form {w : World} {B : Nat} {v : Value} {zs : List (Int × Int × Int)} (h : OwLimb w B v zs) : ∃ A cap, v = .slice A zs.length cap ∧ zs.length ≤ cap ∧ cap ≤ 9223372036854775807 ∧ (0 < zs.length → ∃ g, A = some ⟨g, 0, none⟩ ∧ B ≤ g ∧ g < w.heap.size) := by
  rcases h.slice with ⟨rfl, rfl⟩ | ⟨g, cap, rfl, h1, h2, h3, h4⟩
  · exact ⟨none, 0, rfl, Nat.le_refl _, by omega, fun h0 => absurd h0 (by simp)⟩
  · exact ⟨_, cap, rfl, h3, h4, fun _ => ⟨g, rfl, h1, h2⟩⟩
theorem OwLimb.len {w : World} {B g n cap : Nat} {zs : List (Int × Int × Int)} (h : OwLimb w B (.slice (some ⟨g, 0, none⟩) n cap) zs) : zs.length = n := by
  rcases h.2 with ⟨h', _⟩ | ⟨g', cap', cur, h', _⟩
  · simp at h'
  · simp only [Value.slice.injEq] at h'; exact h'.2.1.symm
theorem OwLimb.cell {w : World} {B g cap n : Nat} {zs : List (Int × Int × Int)} (h : OwLimb w B (.slice (some ⟨g, 0, none⟩) n cap) zs) {i : Nat} (hi : i < zs.length) :
    w.cell? ⟨g, i * 3, none⟩ = some (.int .i64 (zs.getD i (0, 0, 0)).1) ∧ w.cell? ⟨g, i * 3 + 1, none⟩ = some (.int .i64 (zs.getD i (0, 0, 0)).2.1) ∧ w.cell? ⟨g, i * 3 + 2, none⟩ = some (.int .i64 (zs.getD i (0, 0, 0)).2.2) ∧ ∀ j, w.frozen? ⟨g, j, none⟩ = false := by
  have hn := h.len
  subst hn
  refine ⟨?_, ?_, ?_, fun j => World.ownsRow.frozenAt h j⟩
  · rw [World.ownsRow.cellAt h (i * 3) (by omega), flLimb_get0, List.getElem?_eq_getElem hi]; simp [hi]
  · rw [World.ownsRow.cellAt h (i * 3 + 1) (by omega), flLimb_get1, List.getElem?_eq_getElem hi]; simp [hi]
  · rw [World.ownsRow.cellAt h (i * 3 + 2) (by omega), flLimb_get2, List.getElem?_eq_getElem hi]; simp [hi]
theorem OwLimb.set0 {w : World} {B g cap n : Nat} {zs : List (Int × Int × Int)} (h : OwLimb w B (.slice (some ⟨g, 0, none⟩) n cap) zs) {i : Nat} (hi : i < zs.length) (y : Int) :
    OwLimb (w.setCell ⟨g, i * 3, none⟩ (.int .i64 y)) B (.slice (some ⟨g, 0, none⟩) n cap) (zs.set i (y, (zs.getD i (0, 0, 0)).2.1, (zs.getD i (0, 0, 0)).2.2)) ∧ w.grownBy (w.setCell ⟨g, i * 3, none⟩ (.int .i64 y)) (some g) := by
  have hn := h.len
  subst hn
  have h1 := World.ownsRow.stored h (i * 3) (.int .i64 y)
  refine ⟨?_, h1.2⟩
  unfold OwLimb
  rw [List.length_set, ← flLimb_set0 _ _ _ hi]
  exact h1.1
theorem OwLimb.set1 {w : World} {B g cap n : Nat} {zs : List (Int × Int × Int)} (h : OwLimb w B (.slice (some ⟨g, 0, none⟩) n cap) zs) {i : Nat} (hi : i < zs.length) (y : Int) :
    OwLimb (w.setCell ⟨g, i * 3 + 1, none⟩ (.int .i64 y)) B (.slice (some ⟨g, 0, none⟩) n cap) (zs.set i ((zs.getD i (0, 0, 0)).1, y, (zs.getD i (0, 0, 0)).2.2)) ∧ w.grownBy (w.setCell ⟨g, i * 3 + 1, none⟩ (.int .i64 y)) (some g) := by
  have hn := h.len
  subst hn
  have h1 := World.ownsRow.stored h (i * 3 + 1) (.int .i64 y)
  refine ⟨?_, h1.2⟩
  unfold OwLimb
  rw [List.length_set, ← flLimb_set1 _ _ _ hi]
  exact h1.1
theorem OwLimb.set2 {w : World} {B g cap n : Nat} {zs : List (Int × Int × Int)} (h : OwLimb w B (.slice (some ⟨g, 0, none⟩) n cap) zs) {i : Nat} (hi : i < zs.length) (y : Int) :
    OwLimb (w.setCell ⟨g, i * 3 + 2, none⟩ (.int .i64 y)) B (.slice (some ⟨g, 0, none⟩) n cap) (zs.set i ((zs.getD i (0, 0, 0)).1, (zs.getD i (0, 0, 0)).2.1, y)) ∧ w.grownBy (w.setCell ⟨g, i * 3 + 2, none⟩ (.int .i64 y)) (some g) := by
  have hn := h.len
  subst hn
  have h1 := World.ownsRow.stored h (i * 3 + 2) (.int .i64 y)
  refine ⟨?_, h1.2⟩
  unfold OwLimb
  rw [List.length_set, ← flLimb_set2 _ _ _ hi]
  exact h1.1
theorem OwLimb.put {w : World} {B g cap n : Nat} {zs : List (Int × Int × Int)} (h : OwLimb w B (.slice (some ⟨g, 0, none⟩) n cap) zs) {i : Nat} (hi : i < zs.length) (x : Int × Int × Int) :
    OwLimb (((w.setCell ⟨g, i * 3, none⟩ (.int .i64 x.1)).setCell ⟨g, i * 3 + 1, none⟩ (.int .i64 x.2.1)).setCell ⟨g, i * 3 + 2, none⟩ (.int .i64 x.2.2)) B (.slice (some ⟨g, 0, none⟩) n cap) (zs.set i x) ∧ w.grownBy (((w.setCell ⟨g, i * 3, none⟩ (.int .i64 x.1)).setCell ⟨g, i * 3 + 1, none⟩ (.int .i64 x.2.1)).setCell ⟨g, i * 3 + 2, none⟩ (.int .i64 x.2.2)) (some g) := by
  have s0 := h.set0 (i := i) (by simpa using hi) x.1
  have s1 := s0.1.set1 (i := i) (by simpa using hi) x.2.1
  have s2 := s1.1.set2 (i := i) (by simpa using hi) x.2.2
  refine ⟨?_, grownBy_trans (grownBy_trans s0.2 s1.2) s2.2⟩
  simpa [hi, List.getD_eq_getElem?_getD, List.getElem?_set] using s2.1
theorem infoLimb : (Try.prog.info? 80).map (fun i => (i.zero, i.size, i.bytes)) = some (some (.agg #[.int .i64 0, .int .i64 0, .int .i64 0]), 3, 24) := by kernel_rfl
theorem underLimbs : Try.prog.underlying 24 = some (.slice 80) := Try.underlying24
theorem run_makeSLimb (n : Nat) (hn : n ≤ 1048576) (w : World) :
    (Instr.makeSlice 24 (.int .i64 (n : Int)) (.int .i64 (n : Int))).run Try.prog w = .ok (.slice (some ⟨w.heap.size, 0, none⟩) n n) (w.alloc (.cells (madeCells (Value.cells (.agg #[.int .i64 0, .int .i64 0, .int .i64 0])) (n * 3)) 80)) := by
  obtain ⟨i0, hi, hz0, hz1, hz2⟩ := info_parts infoLimb
  have hb : (i0.bytes : Int) * (n : Int) ≤ 281474976710656 := by rw [hz2]; omega
  have hr := run_make (P := Try.prog) w 24 80 i0 _ underLimbs hi hz0 .i64 .i64 n n (by omega) (Int.le_refl _) hb (by omega)
  simp only [Int.toNat_natCast, hz1] at hr
  exact hr
theorem OwLimb.made (w : World) (n : Nat) (hn : n ≤ 1048576) : ∃ zs : List (Int × Int × Int), zs.length = n ∧ OwLimb (w.alloc (.cells (madeCells (Value.cells (.agg #[.int .i64 0, .int .i64 0, .int .i64 0])) (n * 3)) 80)) w.heap.size (.slice (some ⟨w.heap.size, 0, none⟩) n n) zs := by
  refine ⟨List.replicate n (0, 0, 0), by simp, ?_⟩
  have h := World.ownsRow_lit (base := w.heap.size) (e := 80) (size := 3) w (madeCells (Value.cells (.agg #[.int .i64 0, .int .i64 0, .int .i64 0])) (n * 3)) n (Nat.le_refl _) (by rw [maxLen_eq]; omega) (by rw [size_madeCells])
  unfold OwLimb
  rw [List.length_replicate]
  have e : flLimb (List.replicate n (0, 0, 0)) = (madeCells (Value.cells (.agg #[.int .i64 0, .int .i64 0, .int .i64 0])) (n * 3)).toList := by
    apply List.ext_getElem?
    intro j
    have hs : ∀ q r, r < 3 → (flLimb (List.replicate n (0, 0, 0)))[q * 3 + r]? = if q < n then some (.int .i64 0) else none := by
      intro q r hr
      match r, hr with
      | 0, _ => rw [Nat.add_zero, flLimb_get0]; by_cases hq : q < n <;> simp [hq, List.getElem?_replicate]
      | 1, _ => rw [flLimb_get1]; by_cases hq : q < n <;> simp [hq, List.getElem?_replicate]
      | 2, _ => rw [flLimb_get2]; by_cases hq : q < n <;> simp [hq, List.getElem?_replicate]
    have hj := hs (j / 3) (j % 3) (Nat.mod_lt _ (by omega))
    rw [show j / 3 * 3 + j % 3 = j by omega] at hj
    rw [hj]
    by_cases hq : j / 3 < n
    · rw [if_pos hq]
      have hlt : j < n * 3 := by omega
      have hm : j % 3 < 3 := Nat.mod_lt _ (by omega)
      simp only [madeCells, Array.getElem?_toList, Array.getElem?_map, Array.getElem?_range, hlt, Option.map_some, if_true]
      have : ∀ r, r < 3 → (Value.cells (.agg #[.int .i64 0, .int .i64 0, .int .i64 0]))[r]! = .int .i64 0 := by
        intro r hr
        match r, hr with
        | 0, _ => rfl
        | 1, _ => rfl
        | 2, _ => rfl
      simp only [show (Value.cells (.agg #[.int .i64 0, .int .i64 0, .int .i64 0])).size = 3 from rfl]
      rw [this _ hm]
    · rw [if_neg hq]
      have hlt : ¬ j < n * 3 := by omega
      simp [madeCells, hlt]
  rw [e]
  exact h
section
variable {H : Type} {enc : TypeId × Value → H}
theorem oneFieldsLimb : oneCellFields Try.prog (match Try.prog.underlying 82 with | some (.struct fs) => fs | _ => #[]) = true := by kernel_rfl
theorem cellsLimb : Try.prog.cellsOf 82 = 3 := by kernel_rfl
/-- An argument of type []laws.Limb reads as a list. -/
theorem open_rdLimb {W : World} {r : Reach} {base : Nat} {v : Value} {d : DataW H} {p : List MemPlace} (hv : Value.okWide Try.prog W r base 43 v) (h : DataW.Trod enc Try.prog W 0 (fun _ => true) true 43 v d p) :
    ∃ zs : List (Int × Int × Int), RdLimb W v zs := by
  have hu : Try.prog.underlying 43 = some (.slice 82) := Try.underlying43
  have hs := Try.underlying82
  have hone := oneFieldsLimb
  rw [hs] at hone
  obtain ⟨a1, len, cap, rfl⟩ := okWide_slice hu hv
  obtain ⟨fuel, hf⟩ := h
  rcases open_slice_fields hu hs hone cellsLimb hf with ⟨hcs, hx⟩ | ⟨a, len', cap', m, D, Pl, hcs, _, hl, hm, hmm, hx, hi⟩
  · simp [Value.cells] at hcs
    obtain ⟨rfl, rfl, rfl⟩ := hcs
    exact ⟨[], (OwLimb.nil W 0).rd⟩
  · simp [Value.cells] at hcs
    obtain ⟨rfl, rfl, rfl⟩ := hcs
    simp only [ite_true] at hmm
    rw [maxLen_eq] at hm
    obtain ⟨zs, hzl, hz⟩ := list_of len (fun i (x : Int × Int × Int) => W.cell? (a.add (i * 3)) = some (.int .i64 x.1) ∧ W.cell? (a.add (i * 3 + 1)) = some (.int .i64 x.2.1) ∧ W.cell? (a.add (i * 3 + 2)) = some (.int .i64 x.2.2)) (by
      intro i hil
      obtain ⟨ys, n, _, _, _, hfl⟩ := hi i (by omega)
      obtain ⟨v0, y0, hc0, _, ht0⟩ := hfl 0 _ rfl
      obtain ⟨x0, e0, _, _⟩ := DataW.trod_int Try.underlying3 ht0
      simp only [List.cons.injEq, and_true] at e0
      subst e0
      obtain ⟨v1, y1, hc1, _, ht1⟩ := hfl 1 _ rfl
      obtain ⟨x1, e1, _, _⟩ := DataW.trod_int Try.underlying3 ht1
      simp only [List.cons.injEq, and_true] at e1
      subst e1
      obtain ⟨v2, y2, hc2, _, ht2⟩ := hfl 2 _ rfl
      obtain ⟨x2, e2, _, _⟩ := DataW.trod_int Try.underlying3 ht2
      simp only [List.cons.injEq, and_true] at e2
      subst e2
      exact ⟨(x0, x1, x2), by simpa using hc0, by simpa using hc1, by simpa using hc2⟩)
    refine ⟨zs, ?_⟩
    unfold RdLimb
    rw [hzl]
    by_cases h0 : len = 0
    · subst h0
      have : zs = [] := List.eq_nil_of_length_eq_zero hzl
      subst this
      exact ⟨some a, cap, 0, 0, rfl, hl, hm, by simp [flLimb], by simp [flLimb]⟩
    · obtain ⟨x, hx0⟩ : ∃ x, zs[0]? = some x := ⟨_, List.getElem?_eq_getElem (by omega)⟩
      have hc0 := (hz 0 x hx0).1
      obtain ⟨b, off, spot⟩ := a
      have hspot : spot = none := by simpa [Addr.add] using World.cell?_spot hc0
      subst hspot
      refine ⟨_, cap, b, off, rfl, hl, hm, fun _ => rfl, fun j u hj => ?_⟩
      have hq : j = j / 3 * 3 + j % 3 := by omega
      have hr : j % 3 < 3 := Nat.mod_lt _ (by omega)
      generalize hqq : j / 3 = q at hq
      generalize hrr : j % 3 = r at hq hr
      subst hq
      clear hqq hrr
      match r, hr with
      | 0, _ =>
        rw [Nat.add_zero, flLimb_get0] at hj
        obtain ⟨y, hy, rfl⟩ := Option.map_eq_some_iff.1 hj
        have := (hz q y hy).1
        rw [Go.WideShapes.add_plain] at this
        exact this
      | 1, _ =>
        rw [flLimb_get1] at hj
        obtain ⟨y, hy, rfl⟩ := Option.map_eq_some_iff.1 hj
        have := (hz q y hy).2.1
        rw [Go.WideShapes.add_plain] at this
        exact this
      | 2, _ =>
        rw [flLimb_get2] at hj
        obtain ⟨y, hy, rfl⟩ := Option.map_eq_some_iff.1 hj
        have := (hz q y hy).2.2
        rw [Go.WideShapes.add_plain] at this
        exact this
end
end Go.Proofs.Ytfedhjfijcnpdaa
